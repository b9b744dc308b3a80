/- The walk of surdlaw2.IeeeRows: for any three words it answers true, where the library's table of trailing zeros is as it was laid. -/
import Derived.Test.YtmfmgofafamemaaDoorDAwake
namespace Go.Proofs.YtmfmgofafamemaaDoor
open Fl Go.RowKit Go.Joins
theorem fn_any (a : Nat) (w : World) :
    Calls Tryd.prog 7 #[.int .u64 (a : Int)] w fun e w' => e = .returned (.float .f64 a) ∧ w = w' := f_any a w
set_option maxHeartbeats 4000000 in
theorem rows_m1 (a b c : Nat) (H1 : Hid (a < 2 ^ 64)) (H2 : Hid (b < 2 ^ 64)) (H3 : Hid (c < 2 ^ 64)) (w : World) (HW : Hid (DAwake.Cell w)) (B C : Int)
    (hA : Hid (ordI a b = -1)) (hA' : Hid (ordI b a = 1)) (hB : Hid (ordI b c = B)) (hC : Hid (ordI a c = C)) (hS : Hid (sameB a b = false))
    (hG : (FloatKind.f64.format.order a b == some Ordering.gt) = false)
    (hE : (FloatKind.f64.format.order a b == some Ordering.eq) = false)
    (hv : (B = -1 ∧ C = -1) ∨ (B = 0 ∧ C = -1) ∨ (B = 1 ∧ C = -1) ∨ (B = 1 ∧ C = 0) ∨ (B = 1 ∧ C = 1)) :
    Calls Tryd.prog 3 #[.int .u64 a, .int .u64 b, .int .u64 c] w fun e w' => e = .returned (.bool true) ∧ Below w.heap.size w w' := by
  have saa : ordI a a = 0 := ordI_eq rfl
  rcases hv with ⟨rfl, rfl⟩ | ⟨rfl, rfl⟩ | ⟨rfl, rfl⟩ | ⟨rfl, rfl⟩ | ⟨rfl, rfl⟩
  all_goals
    go_enter Tryd.func3, Tryd.ntmps3
    go_wp2_with fail
    refine (fn_any a _).mono ?_
    rintro e w' ⟨rfl, rfl⟩
    go_wp2_with fail
    refine (fn_any b _).mono ?_
    rintro e w' ⟨rfl, rfl⟩
    go_wp2_with fail
    refine (fn_any c _).mono ?_
    rintro e w' ⟨rfl, rfl⟩
    go_wp2_with fail
    refine (order_any a b H1.out H2.out _).mono ?_
    rintro e w' ⟨rfl, rfl⟩
    rw [hA.out]
    go_wp2_with fail
    refine (order_any b c H2.out H3.out _).mono ?_
    rintro e w' ⟨rfl, rfl⟩
    rw [hB.out]
    go_wp2_with fail
    refine (order_any a c H1.out H3.out _).mono ?_
    rintro e w' ⟨rfl, rfl⟩
    rw [hC.out]
    go_wp2_with fail
    refine (order_any b a H2.out H1.out _).mono ?_
    rintro e w' ⟨rfl, rfl⟩
    rw [hA'.out]
    go_wp2_with fail
    refine (order_any a a H1.out H1.out _).mono ?_
    rintro e w' ⟨rfl, rfl⟩
    rw [saa]
    go_wp2_with fail
    refine (same_any a b H1.out H2.out _).mono ?_
    rintro e w' ⟨rfl, rfl⟩
    rw [hS.out]
    go_wp2_with fail
    all_goals
      refine (DAwake.awake_any _ HW.out).mono ?_
      rintro e w1 ⟨rfl, hb⟩
      have HB := Lib.hid hb; clear hb
      go_wp2_with fail
      go_ret
      exact ⟨rfl, HB.out⟩
set_option maxHeartbeats 4000000 in
theorem rows_m2 (a b c : Nat) (H1 : Hid (a < 2 ^ 64)) (H2 : Hid (b < 2 ^ 64)) (H3 : Hid (c < 2 ^ 64)) (w : World) (HW : Hid (DAwake.Cell w)) (B C : Int)
    (hA : Hid (ordI a b = -1)) (hA' : Hid (ordI b a = 1)) (hB : Hid (ordI b c = B)) (hC : Hid (ordI a c = C)) (hS : Hid (sameB a b = false))
    (hG : (FloatKind.f64.format.order a b == some Ordering.gt) = false)
    (hZ : (FloatKind.f64.format.order a 0 != some Ordering.eq) = false)
    (hv : (B = -1 ∧ C = -1) ∨ (B = 0 ∧ C = -1) ∨ (B = 1 ∧ C = -1) ∨ (B = 1 ∧ C = 0) ∨ (B = 1 ∧ C = 1)) :
    Calls Tryd.prog 3 #[.int .u64 a, .int .u64 b, .int .u64 c] w fun e w' => e = .returned (.bool true) ∧ Below w.heap.size w w' := by
  have saa : ordI a a = 0 := ordI_eq rfl
  rcases hv with ⟨rfl, rfl⟩ | ⟨rfl, rfl⟩ | ⟨rfl, rfl⟩ | ⟨rfl, rfl⟩ | ⟨rfl, rfl⟩
  all_goals
    go_enter Tryd.func3, Tryd.ntmps3
    go_wp2_with fail
    refine (fn_any a _).mono ?_
    rintro e w' ⟨rfl, rfl⟩
    go_wp2_with fail
    refine (fn_any b _).mono ?_
    rintro e w' ⟨rfl, rfl⟩
    go_wp2_with fail
    refine (fn_any c _).mono ?_
    rintro e w' ⟨rfl, rfl⟩
    go_wp2_with fail
    refine (order_any a b H1.out H2.out _).mono ?_
    rintro e w' ⟨rfl, rfl⟩
    rw [hA.out]
    go_wp2_with fail
    refine (order_any b c H2.out H3.out _).mono ?_
    rintro e w' ⟨rfl, rfl⟩
    rw [hB.out]
    go_wp2_with fail
    refine (order_any a c H1.out H3.out _).mono ?_
    rintro e w' ⟨rfl, rfl⟩
    rw [hC.out]
    go_wp2_with fail
    refine (order_any b a H2.out H1.out _).mono ?_
    rintro e w' ⟨rfl, rfl⟩
    rw [hA'.out]
    go_wp2_with fail
    refine (order_any a a H1.out H1.out _).mono ?_
    rintro e w' ⟨rfl, rfl⟩
    rw [saa]
    go_wp2_with fail
    refine (same_any a b H1.out H2.out _).mono ?_
    rintro e w' ⟨rfl, rfl⟩
    rw [hS.out]
    go_wp2_with fail
    all_goals
      refine (DAwake.awake_any _ HW.out).mono ?_
      rintro e w1 ⟨rfl, hb⟩
      have HB := Lib.hid hb; clear hb
      go_wp2_with fail
      go_ret
      exact ⟨rfl, HB.out⟩
set_option maxHeartbeats 4000000 in
theorem rows_z (a b c : Nat) (H1 : Hid (a < 2 ^ 64)) (H2 : Hid (b < 2 ^ 64)) (H3 : Hid (c < 2 ^ 64)) (w : World) (HW : Hid (DAwake.Cell w)) (B C : Int)
    (hA : Hid (ordI a b = 0)) (hA' : Hid (ordI b a = 0)) (hB : Hid (ordI b c = B)) (hC : Hid (ordI a c = C)) (hS : Hid (sameB a b = true))
    (hL : (FloatKind.f64.format.order a b == some Ordering.lt) = false)
    (hG : (FloatKind.f64.format.order a b == some Ordering.gt) = false)
    (hv : (B = -1 ∧ C = -1) ∨ (B = 0 ∧ C = 0) ∨ (B = 1 ∧ C = 1)) :
    Calls Tryd.prog 3 #[.int .u64 a, .int .u64 b, .int .u64 c] w fun e w' => e = .returned (.bool true) ∧ Below w.heap.size w w' := by
  have saa : ordI a a = 0 := ordI_eq rfl
  rcases hv with ⟨rfl, rfl⟩ | ⟨rfl, rfl⟩ | ⟨rfl, rfl⟩
  all_goals
    go_enter Tryd.func3, Tryd.ntmps3
    go_wp2_with fail
    refine (fn_any a _).mono ?_
    rintro e w' ⟨rfl, rfl⟩
    go_wp2_with fail
    refine (fn_any b _).mono ?_
    rintro e w' ⟨rfl, rfl⟩
    go_wp2_with fail
    refine (fn_any c _).mono ?_
    rintro e w' ⟨rfl, rfl⟩
    go_wp2_with fail
    refine (order_any a b H1.out H2.out _).mono ?_
    rintro e w' ⟨rfl, rfl⟩
    rw [hA.out]
    go_wp2_with fail
    refine (order_any b c H2.out H3.out _).mono ?_
    rintro e w' ⟨rfl, rfl⟩
    rw [hB.out]
    go_wp2_with fail
    refine (order_any a c H1.out H3.out _).mono ?_
    rintro e w' ⟨rfl, rfl⟩
    rw [hC.out]
    go_wp2_with fail
    refine (order_any b a H2.out H1.out _).mono ?_
    rintro e w' ⟨rfl, rfl⟩
    rw [hA'.out]
    go_wp2_with fail
    refine (order_any a a H1.out H1.out _).mono ?_
    rintro e w' ⟨rfl, rfl⟩
    rw [saa]
    go_wp2_with fail
    refine (same_any a b H1.out H2.out _).mono ?_
    rintro e w' ⟨rfl, rfl⟩
    rw [hS.out]
    go_wp2_with fail
    all_goals
      refine (DAwake.awake_any _ HW.out).mono ?_
      rintro e w1 ⟨rfl, hb⟩
      have HB := Lib.hid hb; clear hb
      go_wp2_with fail
      go_ret
      exact ⟨rfl, HB.out⟩
set_option maxHeartbeats 4000000 in
theorem rows_p1 (a b c : Nat) (H1 : Hid (a < 2 ^ 64)) (H2 : Hid (b < 2 ^ 64)) (H3 : Hid (c < 2 ^ 64)) (w : World) (HW : Hid (DAwake.Cell w)) (B C : Int)
    (hA : Hid (ordI a b = 1)) (hA' : Hid (ordI b a = -1)) (hB : Hid (ordI b c = B)) (hC : Hid (ordI a c = C)) (hS : Hid (sameB a b = false))
    (hL : (FloatKind.f64.format.order a b == some Ordering.lt) = false)
    (hE : (FloatKind.f64.format.order a b == some Ordering.eq) = false)
    (hv : (B = -1 ∧ C = -1) ∨ (B = -1 ∧ C = 0) ∨ (B = -1 ∧ C = 1) ∨ (B = 0 ∧ C = 1) ∨ (B = 1 ∧ C = 1)) :
    Calls Tryd.prog 3 #[.int .u64 a, .int .u64 b, .int .u64 c] w fun e w' => e = .returned (.bool true) ∧ Below w.heap.size w w' := by
  have saa : ordI a a = 0 := ordI_eq rfl
  rcases hv with ⟨rfl, rfl⟩ | ⟨rfl, rfl⟩ | ⟨rfl, rfl⟩ | ⟨rfl, rfl⟩ | ⟨rfl, rfl⟩
  all_goals
    go_enter Tryd.func3, Tryd.ntmps3
    go_wp2_with fail
    refine (fn_any a _).mono ?_
    rintro e w' ⟨rfl, rfl⟩
    go_wp2_with fail
    refine (fn_any b _).mono ?_
    rintro e w' ⟨rfl, rfl⟩
    go_wp2_with fail
    refine (fn_any c _).mono ?_
    rintro e w' ⟨rfl, rfl⟩
    go_wp2_with fail
    refine (order_any a b H1.out H2.out _).mono ?_
    rintro e w' ⟨rfl, rfl⟩
    rw [hA.out]
    go_wp2_with fail
    refine (order_any b c H2.out H3.out _).mono ?_
    rintro e w' ⟨rfl, rfl⟩
    rw [hB.out]
    go_wp2_with fail
    refine (order_any a c H1.out H3.out _).mono ?_
    rintro e w' ⟨rfl, rfl⟩
    rw [hC.out]
    go_wp2_with fail
    refine (order_any b a H2.out H1.out _).mono ?_
    rintro e w' ⟨rfl, rfl⟩
    rw [hA'.out]
    go_wp2_with fail
    refine (order_any a a H1.out H1.out _).mono ?_
    rintro e w' ⟨rfl, rfl⟩
    rw [saa]
    go_wp2_with fail
    refine (same_any a b H1.out H2.out _).mono ?_
    rintro e w' ⟨rfl, rfl⟩
    rw [hS.out]
    go_wp2_with fail
    all_goals
      refine (DAwake.awake_any _ HW.out).mono ?_
      rintro e w1 ⟨rfl, hb⟩
      have HB := Lib.hid hb; clear hb
      go_wp2_with fail
      go_ret
      exact ⟨rfl, HB.out⟩
set_option maxHeartbeats 4000000 in
theorem rows_p2 (a b c : Nat) (H1 : Hid (a < 2 ^ 64)) (H2 : Hid (b < 2 ^ 64)) (H3 : Hid (c < 2 ^ 64)) (w : World) (HW : Hid (DAwake.Cell w)) (B C : Int)
    (hA : Hid (ordI a b = 1)) (hA' : Hid (ordI b a = -1)) (hB : Hid (ordI b c = B)) (hC : Hid (ordI a c = C)) (hS : Hid (sameB a b = false))
    (hL : (FloatKind.f64.format.order a b == some Ordering.lt) = false)
    (hZ : (FloatKind.f64.format.order a 0 != some Ordering.eq) = false)
    (hv : (B = -1 ∧ C = -1) ∨ (B = -1 ∧ C = 0) ∨ (B = -1 ∧ C = 1) ∨ (B = 0 ∧ C = 1) ∨ (B = 1 ∧ C = 1)) :
    Calls Tryd.prog 3 #[.int .u64 a, .int .u64 b, .int .u64 c] w fun e w' => e = .returned (.bool true) ∧ Below w.heap.size w w' := by
  have saa : ordI a a = 0 := ordI_eq rfl
  rcases hv with ⟨rfl, rfl⟩ | ⟨rfl, rfl⟩ | ⟨rfl, rfl⟩ | ⟨rfl, rfl⟩ | ⟨rfl, rfl⟩
  all_goals
    go_enter Tryd.func3, Tryd.ntmps3
    go_wp2_with fail
    refine (fn_any a _).mono ?_
    rintro e w' ⟨rfl, rfl⟩
    go_wp2_with fail
    refine (fn_any b _).mono ?_
    rintro e w' ⟨rfl, rfl⟩
    go_wp2_with fail
    refine (fn_any c _).mono ?_
    rintro e w' ⟨rfl, rfl⟩
    go_wp2_with fail
    refine (order_any a b H1.out H2.out _).mono ?_
    rintro e w' ⟨rfl, rfl⟩
    rw [hA.out]
    go_wp2_with fail
    refine (order_any b c H2.out H3.out _).mono ?_
    rintro e w' ⟨rfl, rfl⟩
    rw [hB.out]
    go_wp2_with fail
    refine (order_any a c H1.out H3.out _).mono ?_
    rintro e w' ⟨rfl, rfl⟩
    rw [hC.out]
    go_wp2_with fail
    refine (order_any b a H2.out H1.out _).mono ?_
    rintro e w' ⟨rfl, rfl⟩
    rw [hA'.out]
    go_wp2_with fail
    refine (order_any a a H1.out H1.out _).mono ?_
    rintro e w' ⟨rfl, rfl⟩
    rw [saa]
    go_wp2_with fail
    refine (same_any a b H1.out H2.out _).mono ?_
    rintro e w' ⟨rfl, rfl⟩
    rw [hS.out]
    go_wp2_with fail
    all_goals
      refine (DAwake.awake_any _ HW.out).mono ?_
      rintro e w1 ⟨rfl, hb⟩
      have HB := Lib.hid hb; clear hb
      go_wp2_with fail
      go_ret
      exact ⟨rfl, HB.out⟩
theorem ieeeRows_walk (a b c : Nat) (ha : a < 2 ^ 64) (hb : b < 2 ^ 64) (hc : c < 2 ^ 64) (w : World) (h : DAwake.Cell w) :
    Calls Tryd.prog 3 #[.int .u64 a, .int .u64 b, .int .u64 c] w fun e w' => e = .returned (.bool true) ∧ Below w.heap.size w w' := by
  have o := order_row a b
  have oe : FloatKind.f64.format = D := rfl
  have z := order_zeroB a
  have ss : sameB a b = decide (plT a = plT b) := by unfold sameB; exact decide_eq_decide.2 (plT_eq ha hb).symm
  have hE : plT a ≠ plT b → (FloatKind.f64.format.order a b == some Ordering.eq) = false ∨ (FloatKind.f64.format.order a 0 != some Ordering.eq) = false := by
    intro hA
    cases hq : (FloatKind.f64.format.order a b == some Ordering.eq)
    · exact .inl rfl
    · rw [oe, beq_iff_eq] at hq
      rcases o.2.2 hq with e | e
      · exact absurd e hA
      · exact .inr (by unfold bne; rw [z]; unfold zeroB; rw [decide_eq_true e]; rfl)
  have hL : ¬ plT a < plT b → (FloatKind.f64.format.order a b == some Ordering.lt) = false := fun n => by rw [beq_eq_false_iff_ne]; exact fun e => n (o.1 e)
  have hG : ¬ plT b < plT a → (FloatKind.f64.format.order a b == some Ordering.gt) = false := fun n => by rw [beq_eq_false_iff_ne]; exact fun e => n (o.2.1 e)
  rcases ordI_cases a b with ⟨A1, A2⟩ | ⟨A1, A2⟩ | ⟨A1, A2⟩
  · have A3 : ordI b a = 1 := ordI_gt A2
    have S : sameB a b = false := by rw [ss]; exact decide_eq_false (by omega)
    have V : (ordI b c = -1 ∧ ordI a c = -1) ∨ (ordI b c = 0 ∧ ordI a c = -1) ∨ (ordI b c = 1 ∧ ordI a c = -1) ∨ (ordI b c = 1 ∧ ordI a c = 0) ∨ (ordI b c = 1 ∧ ordI a c = 1) := by
      rcases ordI_cases b c with ⟨B1, B2⟩ | ⟨B1, B2⟩ | ⟨B1, B2⟩ <;> rcases ordI_cases a c with ⟨C1, C2⟩ | ⟨C1, C2⟩ | ⟨C1, C2⟩ <;> omega
    rcases hE (by omega) with e | e
    · exact rows_m1 a b c (Lib.hid ha) (Lib.hid hb) (Lib.hid hc) w (Lib.hid h) _ _ (Lib.hid A1) (Lib.hid A3) (Lib.hid rfl) (Lib.hid rfl) (Lib.hid S) (hG (by omega)) e V
    · exact rows_m2 a b c (Lib.hid ha) (Lib.hid hb) (Lib.hid hc) w (Lib.hid h) _ _ (Lib.hid A1) (Lib.hid A3) (Lib.hid rfl) (Lib.hid rfl) (Lib.hid S) (hG (by omega)) e V
  · have A3 : ordI b a = 0 := ordI_eq A2.symm
    have S : sameB a b = true := by rw [ss]; exact decide_eq_true A2
    have V : (ordI b c = -1 ∧ ordI a c = -1) ∨ (ordI b c = 0 ∧ ordI a c = 0) ∨ (ordI b c = 1 ∧ ordI a c = 1) := by
      rcases ordI_cases b c with ⟨B1, B2⟩ | ⟨B1, B2⟩ | ⟨B1, B2⟩ <;> rcases ordI_cases a c with ⟨C1, C2⟩ | ⟨C1, C2⟩ | ⟨C1, C2⟩ <;> omega
    exact rows_z a b c (Lib.hid ha) (Lib.hid hb) (Lib.hid hc) w (Lib.hid h) _ _ (Lib.hid A1) (Lib.hid A3) (Lib.hid rfl) (Lib.hid rfl) (Lib.hid S) (hL (by omega)) (hG (by omega)) V
  · have A3 : ordI b a = -1 := ordI_lt A2
    have S : sameB a b = false := by rw [ss]; exact decide_eq_false (by omega)
    have V : (ordI b c = -1 ∧ ordI a c = -1) ∨ (ordI b c = -1 ∧ ordI a c = 0) ∨ (ordI b c = -1 ∧ ordI a c = 1) ∨ (ordI b c = 0 ∧ ordI a c = 1) ∨ (ordI b c = 1 ∧ ordI a c = 1) := by
      rcases ordI_cases b c with ⟨B1, B2⟩ | ⟨B1, B2⟩ | ⟨B1, B2⟩ <;> rcases ordI_cases a c with ⟨C1, C2⟩ | ⟨C1, C2⟩ | ⟨C1, C2⟩ <;> omega
    rcases hE (by omega) with e | e
    · exact rows_p1 a b c (Lib.hid ha) (Lib.hid hb) (Lib.hid hc) w (Lib.hid h) _ _ (Lib.hid A1) (Lib.hid A3) (Lib.hid rfl) (Lib.hid rfl) (Lib.hid S) (hL (by omega)) e V
    · exact rows_p2 a b c (Lib.hid ha) (Lib.hid hb) (Lib.hid hc) w (Lib.hid h) _ _ (Lib.hid A1) (Lib.hid A3) (Lib.hid rfl) (Lib.hid rfl) (Lib.hid S) (hL (by omega)) e V
end Go.Proofs.YtmfmgofafamemaaDoor
