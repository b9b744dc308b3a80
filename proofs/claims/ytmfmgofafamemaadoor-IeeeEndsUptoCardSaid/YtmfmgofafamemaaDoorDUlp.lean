/- Contracts of ieee.Ulp, math.IsInf, math.Signbit, math.Frexp. -/
import Derived.Test.YtmfmgofafamemaaDoorDRow
namespace Go.Proofs.YtmfmgofafamemaaDoor
open Fl
theorem ulp_top (x : Nat) (hx : x < 2 ^ 64) (hf : ¬ fin x) (w : World) :
    Calls Tryd.prog 19 #[.float .f64 x] w fun e w' => e = .returned (.float .f64 NANQ) ∧ w = w' := by
  have h1 := frombits_run
  have hs := size_any x hx w
  have a1 : 9218868437227405312 ≤ (rg x : Int) := by unfold fin INF at hf; omega
  have S := Lib.hid hs
  generalize (rg x : Int) = s at *
  clear hx hf hs
  go_enter Tryd.func19, Tryd.ntmps19
  go_wp2_with (go_at_call 29; refine S.out.mono ?_; rintro e w' ⟨rfl, rfl⟩)
  go_ret
  exact ⟨rfl, rfl⟩
theorem ulp_zero (x : Nat) (hx : x < 2 ^ 64) (h2 : rg x / 2 ^ 52 = 0) (w : World) :
    Calls Tryd.prog 19 #[.float .f64 x] w fun e w' => e = .returned (.float .f64 1) ∧ w = w' := by
  have h1 := frombits_run
  have hs := size_any x hx w
  have a1 : ¬ 9218868437227405312 ≤ (rg x : Int) := by omega
  have a2 : RowKit.wrap64 ((rg x : Int) / 4503599627370496) = 0 := by rw [w64 _ (by omega) (by omega)]; omega
  have S := Lib.hid hs
  generalize (rg x : Int) = s at *
  clear hx hs h2
  go_enter Tryd.func19, Tryd.ntmps19
  go_wp2_with (go_at_call 29; refine S.out.mono ?_; rintro e w' ⟨rfl, rfl⟩)
  all_goals go_ret
  all_goals exact ⟨rfl, rfl⟩
theorem ulp_low (x : Nat) (hx : x < 2 ^ 64) (h0 : 1 ≤ rg x / 2 ^ 52) (h2 : rg x / 2 ^ 52 ≤ 52) (w : World) :
    Calls Tryd.prog 19 #[.float .f64 x] w fun e w' => e = .returned (.float .f64 (2 ^ (rg x / 2 ^ 52 - 1))) ∧ w = w' := by
  have h1 := frombits_run
  have hs := size_any x hx w
  have a1 : ¬ 9218868437227405312 ≤ (rg x : Int) := by omega
  obtain ⟨k, hk⟩ : ∃ k, k = rg x / 2 ^ 52 - 1 := ⟨_, rfl⟩
  have a2 : RowKit.wrap64 ((rg x : Int) / 4503599627370496) = (k : Int) + 1 := by rw [w64 _ (by omega) (by omega)]; omega
  have a3 : (k : Int) + 1 ≤ 52 := by omega
  have a4 : RowKit.wrap64 ((k : Int) + 1 - 1) = (k : Int) := by rw [w64 _ (by omega) (by omega)]; omega
  have a5 : (0 : Int) ≤ k := by omega
  have a6 : (IntKind.u64.wrap (2 ^ ((k : Int).toNat))).toNat = 2 ^ k := by
    have e1 : ((k : Int).toNat) = k := by omega
    have e2 : 2 ^ k < 2 ^ 64 := Nat.pow_lt_pow_right (by decide) (by omega)
    rw [e1, show ((2 : Int) ^ k) = ((2 ^ k : Nat) : Int) by norm_cast]
    generalize 2 ^ k = q at *
    rw [u64w _ (by omega) (by omega)]; omega
  have a7 : ¬ 0 < (k : Int) → (IntKind.u64.wrap 1).toNat = 2 ^ k := by
    intro h
    obtain rfl : k = 0 := by omega
    rfl
  rw [← hk]
  have A6 := Lib.hid a6
  have A7 := Lib.hid a7
  have S := Lib.hid hs
  generalize (rg x : Int) = s at *
  generalize (k : Int) = z at *
  clear hx hs h0 h2 a6 a7 hk
  go_enter Tryd.func19, Tryd.ntmps19
  go_wp2_with (go_at_call 29; refine S.out.mono ?_; rintro e w' ⟨rfl, rfl⟩)
  all_goals go_ret
  · exact ⟨ret_float A6.out, rfl⟩
  · exact ⟨ret_float (A7.out (by omega)), rfl⟩
theorem ulp_high (x : Nat) (hx : x < 2 ^ 64) (hf : fin x) (h2 : 53 ≤ rg x / 2 ^ 52) (w : World) :
    Calls Tryd.prog 19 #[.float .f64 x] w fun e w' => e = .returned (.float .f64 ((rg x / 2 ^ 52 - 52) * 2 ^ 52)) ∧ w = w' := by
  have h1 := frombits_run
  have hs := size_any x hx w
  unfold fin INF at hf
  have a1 : ¬ 9218868437227405312 ≤ (rg x : Int) := by omega
  obtain ⟨k, hk⟩ : ∃ k, k = rg x / 2 ^ 52 - 52 := ⟨_, rfl⟩
  have a2 : RowKit.wrap64 ((rg x : Int) / 4503599627370496) = (k : Int) + 52 := by rw [w64 _ (by omega) (by omega)]; omega
  have a3 : ¬ (k : Int) + 52 ≤ 52 := by omega
  have a4 : RowKit.wrap64 ((k : Int) + 52 - 52) = (k : Int) := by rw [w64 _ (by omega) (by omega)]; omega
  have a5 : RowKit.wrap64 (k : Int) = (k : Int) := w64 _ (by omega) (by omega)
  have a6 : (IntKind.u64.wrap (IntKind.u64.wrap (k : Int) * 4503599627370496)).toNat = k * 2 ^ 52 := by
    rw [u64w (k : Int) (by omega) (by omega), u64w _ (by omega) (by omega)]; omega
  rw [← hk]
  have A6 := Lib.hid a6
  have S := Lib.hid hs
  generalize (rg x : Int) = s at *
  generalize (k : Int) = z at *
  clear hx hs hf h2 a6 hk
  go_enter Tryd.func19, Tryd.ntmps19
  go_wp2_with (go_at_call 29; refine S.out.mono ?_; rintro e w' ⟨rfl, rfl⟩)
  go_ret
  exact ⟨ret_float A6.out, rfl⟩
/-- what ieee.Ulp answers -/
theorem ulp_any (x : Nat) (hx : x < 2 ^ 64) (w : World) :
    Calls Tryd.prog 19 #[.float .f64 x] w fun e w' => e = .returned (.float .f64 (ulpW x)) ∧ w = w' := by
  unfold ulpW
  by_cases hf : fin x
  · rw [if_neg (not_not_intro hf)]
    by_cases h2 : rg x / 2 ^ 52 ≤ 52
    · rw [if_pos h2]
      by_cases h0 : rg x / 2 ^ 52 = 0
      · rw [h0]; exact ulp_zero x hx h0 w
      · exact ulp_low x hx (by omega) h2 w
    · rw [if_neg h2]; exact ulp_high x hx hf (by omega) w
  · rw [if_pos hf]; exact ulp_top x hx hf w
theorem unary_neg (x : Nat) (hx : x < 2 ^ 64) (w : World) : (Op.unary .neg (.float .f64 x)).run Tryd.prog w = .ok (.float .f64 (neg x)) w := by
  rw [← negFloat_eq x hx]; rfl
theorem rg_lt' (x : Nat) : rg x < 2 ^ 64 := Nat.lt_trans (rg_lt x) (by decide)
/-- math.IsInf -/
theorem isInf0_any (x : Nat) (hx : x < 2 ^ 64) (w : World) :
    Calls Tryd.prog 16 #[.float .f64 x, .int .i64 0] w fun e w' => e = .returned (.bool (decide (rg x = INF))) ∧ w = w' := by
  have G := Lib.hid (gt_max (rg_lt' x))
  have H := Lib.hid hx; clear hx
  go_enter Tryd.func16, Tryd.ntmps16
  go_wp2_with (go_at_call 18; refine (abs_any _ H.out _).mono ?_; rintro e w' ⟨rfl, rfl⟩)
  go_ret
  exact ⟨ret_bool G.out, rfl⟩
theorem isInfp_any (x : Nat) (hx : x < 2 ^ 64) (w : World) :
    Calls Tryd.prog 16 #[.float .f64 x, .int .i64 1] w fun e w' => e = .returned (.bool (decide (x = INF))) ∧ w = w' := by
  have G := Lib.hid (gt_max hx)
  go_enter Tryd.func16, Tryd.ntmps16
  go_wp2
  go_ret
  exact ⟨ret_bool G.out, rfl⟩
theorem isInfm_any (x : Nat) (hx : x < 2 ^ 64) (w : World) :
    Calls Tryd.prog 16 #[.float .f64 x, .int .i64 (-1)] w fun e w' => e = .returned (.bool (decide (neg x = INF))) ∧ w = w' := by
  have h1 := unary_neg x hx
  have G := Lib.hid (gt_max (neg_lt x hx))
  go_enter Tryd.func16, Tryd.ntmps16
  go_wp2
  go_ret
  exact ⟨ret_bool G.out, rfl⟩
theorem isNaN_any (x : Nat) (w : World) :
    Calls Tryd.prog 35 #[.float .f64 x] w fun e w' => e = .returned (.bool (decide (isNan x))) ∧ w = w' := by
  have e : (FloatKind.f64.format.order x x == some Ordering.eq) = decide (¬ isNan x) := beq_dec (order_self x)
  have E := Lib.hid e; clear e
  go_enter Tryd.func35, Tryd.ntmps35
  go_wp2
  go_ret
  exact ⟨ret_bool (by unfold bne; rw [E.out]; by_cases h : isNan x <;> simp [h]), rfl⟩
/-- math.normalize -/
theorem normalize_norm (x : Nat) (hf : rg x < INF) (h0 : sg x = false) (hx : x < 2 ^ 64) (hn : 2 ^ 52 ≤ rg x) (w : World) :
    Calls Tryd.prog 36 #[.float .f64 x] w fun e w' => e = .returned (.tuple #[.float .f64 x, .int .i64 0]) ∧ w = w' := by
  have e : (FloatKind.f64.format.order (rg x) 4503599627370496 == some Ordering.lt) = false := by
    have ex : rg x = x := (sg_false hx h0).symm
    rw [ex, lt_small (by unfold isNan; omega) h0]
    exact decide_eq_false (by omega)
  have H := Lib.hid hx; clear hx hf h0 hn
  go_enter Tryd.func36, Tryd.ntmps36
  go_wp2_with (go_at_call 18; refine (abs_any _ H.out _).mono ?_; rintro e w' ⟨rfl, rfl⟩)
  go_ret2
  exact ⟨rfl, rfl⟩
theorem normalize_sub (k : Nat) (hk : k < 52) (w : World) :
    Calls Tryd.prog 36 #[.float .f64 (2 ^ k)] w fun e w' => e = .returned (.tuple #[.float .f64 ((k + 1) * 2 ^ 52), .int .i64 (-52)]) ∧ ∃ n, w' = w.drewN n := by
  have b : 2 ^ k < 2 ^ 52 := Nat.pow_lt_pow_right (by decide) hk
  have M := Lib.hid (mul_52 ⟨k, hk⟩)
  generalize hx : 2 ^ k = x at *
  have hx : x < 2 ^ 64 := by omega
  have er : rg x = x := Nat.mod_eq_of_lt (by omega)
  have e : (FloatKind.f64.format.order (rg x) 4503599627370496 == some Ordering.lt) = true := by
    rw [er, lt_small (by unfold isNan INF; omega) (by unfold sg; rw [Nat.div_eq_of_lt (by omega)]; rfl)]
    exact decide_eq_true (by omega)
  have H := Lib.hid hx; clear hx er b
  go_enter Tryd.func36, Tryd.ntmps36
  go_wp2_with (go_at_call 18; refine (abs_any _ H.out _).mono ?_; rintro e w' ⟨rfl, rfl⟩)
  go_ret2
  exact ⟨by rw [show fop BinOp.mul x 4841369599423283200 w = (k + 1) * 2 ^ 52 from Res.eq (fop_mul x 4841369599423283200 w) M.out]; rfl, _, rfl⟩
/-- math.frexp at a power of two -/
theorem frexp_norm (k : Nat) (h1 : 1 ≤ k) (h2 : k < 2047) (w : World) :
    Calls Tryd.prog 31 #[.float .f64 (k * 2 ^ 52)] w fun e w' => e = .returned (.tuple #[.float .f64 4602678819172646912, .int .i64 (k - 1022)]) ∧ w = w' := by
  have b : k * 2 ^ 52 < INF := by unfold INF; omega
  have c : 2 ^ 52 ≤ k * 2 ^ 52 := by omega
  have c2 : ((k * 2 ^ 52 : Nat) : Int) / 4503599627370496 = k := by omega
  have c3 : bits .and .u64 (k : Int) 2047 = k := by
    have := u64_and_nat k 2047 (by omega) (by decide)
    rw [show ((2047 : Nat) : Int) = 2047 from rfl] at this
    rw [this, show (2047 : Nat) = 2 ^ 11 - 1 from rfl, Nat.and_two_pow_sub_one_eq_mod, Nat.mod_eq_of_lt (by omega)]
  have c4 : bits .andNot .u64 ((k * 2 ^ 52 : Nat) : Int) 9218868437227405312 = 0 := by
    have := u64_andNot_nat (k * 2 ^ 52) 9218868437227405312 (by omega) (by decide)
    rw [show ((9218868437227405312 : Nat) : Int) = 9218868437227405312 from rfl] at this
    rw [this, show 18446744073709551615 - 9218868437227405312 = 9227875636482146303 from rfl, and_exp ⟨k, by omega⟩]; rfl
  have c5 : bits .or .u64 0 4602678819172646912 = 4602678819172646912 := by decide +kernel
  generalize hx : k * 2 ^ 52 = x at *
  have h3 := f64bits_run
  have h4 := frombits_run
  have hx : x < 2 ^ 64 := by unfold INF at b; omega
  have er : rg x = x := Nat.mod_eq_of_lt (by unfold INF at b; omega)
  have e : (FloatKind.f64.format.order x 0 == some Ordering.eq) = false := by
    rw [order_zeroB]; unfold zeroB; rw [er]; exact decide_eq_false (by omega)
  have n1 : decide (rg x = INF) = false := decide_eq_false (by rw [er]; omega)
  have n2 : decide (isNan x) = false := decide_eq_false (by unfold isNan; rw [er]; omega)
  have w1 : RowKit.wrap64 (k : Int) = k := w64 _ (by omega) (by omega)
  have N := Lib.hid (normalize_norm x (by rw [er]; exact b) (by unfold sg; rw [Nat.div_eq_of_lt (by unfold INF at b; omega)]; rfl) hx (by rw [er]; exact c))
  have H := Lib.hid hx; clear hx er b c
  have w2 : RowKit.wrap64 ((k : Int) - 1023) = k - 1023 := w64 _ (by omega) (by omega)
  have w3 : RowKit.wrap64 ((k : Int) - 1023 + 1) = k - 1022 := by rw [w64 _ (by omega) (by omega)]; omega
  have w4 : RowKit.wrap64 ((k : Int) - 1022) = k - 1022 := w64 _ (by omega) (by omega)
  clear hx
  go_enter Tryd.func31, Tryd.ntmps31
  go_wp2_with (first | (go_at_call 16; refine (isInf0_any _ H.out _).mono ?_; rintro e w' ⟨rfl, rfl⟩; rw [n1]) | (go_at_call 35; refine (isNaN_any _ _).mono ?_; rintro e w' ⟨rfl, rfl⟩; rw [n2]) | (go_at_call 36; refine (N.out _).mono ?_; rintro e w' ⟨rfl, rfl⟩))
  go_ret2
  exact ⟨by rw [show ((k : Int) - 1022) = k - 1023 + 1 by omega]; rfl, rfl⟩
theorem frexp_sub (k : Nat) (hk : k < 52) (w : World) :
    Calls Tryd.prog 31 #[.float .f64 (2 ^ k)] w fun e w' => e = .returned (.tuple #[.float .f64 4602678819172646912, .int .i64 (k - 1073)]) ∧ ∃ n, w' = w.drewN n := by
  have b0 : 2 ^ k < 2 ^ 52 := Nat.pow_lt_pow_right (by decide) hk
  have b1 : 0 < 2 ^ k := Nat.two_pow_pos _
  have N := Lib.hid (normalize_sub k hk)
  generalize 2 ^ k = y at *
  have c : 2 ^ 52 ≤ (k + 1) * 2 ^ 52 := by omega
  have c2 : (((k + 1) * 2 ^ 52 : Nat) : Int) / 4503599627370496 = k + 1 := by omega
  have c3 : bits .and .u64 ((k : Int) + 1) 2047 = k + 1 := by
    have := u64_and_nat (k + 1) 2047 (by omega) (by decide)
    rw [show ((2047 : Nat) : Int) = 2047 from rfl, show (((k + 1 : Nat)) : Int) = (k : Int) + 1 from rfl] at this
    rw [this, show (2047 : Nat) = 2 ^ 11 - 1 from rfl, Nat.and_two_pow_sub_one_eq_mod, Nat.mod_eq_of_lt (by omega)]; rfl
  have c4 : bits .andNot .u64 (((k + 1) * 2 ^ 52 : Nat) : Int) 9218868437227405312 = 0 := by
    have := u64_andNot_nat ((k + 1) * 2 ^ 52) 9218868437227405312 (by omega) (by decide)
    rw [show ((9218868437227405312 : Nat) : Int) = 9218868437227405312 from rfl] at this
    rw [this, show 18446744073709551615 - 9218868437227405312 = 9227875636482146303 from rfl, and_exp ⟨k + 1, by omega⟩]; rfl
  have c5 : bits .or .u64 0 4602678819172646912 = 4602678819172646912 := by decide +kernel
  have cx : (k + 1) * 2 ^ 52 < 2 ^ 64 := by omega
  generalize (k + 1) * 2 ^ 52 = x at *
  have h3 := f64bits_run
  have h4 := frombits_run
  have er : rg y = y := Nat.mod_eq_of_lt (by omega)
  have e : (FloatKind.f64.format.order y 0 == some Ordering.eq) = false := by
    rw [order_zeroB]; unfold zeroB; rw [er]; exact decide_eq_false (by omega)
  have n1 : decide (rg y = INF) = false := decide_eq_false (by rw [er]; unfold INF; omega)
  have n2 : decide (isNan y) = false := decide_eq_false (by unfold isNan INF; rw [er]; omega)
  have w1 : RowKit.wrap64 ((k : Int) + 1) = k + 1 := w64 _ (by omega) (by omega)
  have w2 : RowKit.wrap64 ((k : Int) + 1 - 1023) = k + 1 - 1023 := w64 _ (by omega) (by omega)
  have w3 : RowKit.wrap64 ((k : Int) + 1 - 1023 + 1) = k + 1 - 1023 + 1 := w64 _ (by omega) (by omega)
  have w4 : RowKit.wrap64 (-52 + ((k : Int) + 1 - 1023 + 1)) = k - 1073 := by rw [w64 _ (by omega) (by omega)]; omega
  have H := Lib.hid (show y < 2 ^ 64 by omega); clear er b0 b1 c cx
  go_enter Tryd.func31, Tryd.ntmps31
  go_wp2_with (first | (go_at_call 16; refine (isInf0_any _ H.out _).mono ?_; rintro e w' ⟨rfl, rfl⟩; rw [n1]) | (go_at_call 35; refine (isNaN_any _ _).mono ?_; rintro e w' ⟨rfl, rfl⟩; rw [n2]) | (go_at_call 36; refine (N.out _).mono ?_; rintro e w' ⟨rfl, n, rfl⟩))
  go_ret2
  exact ⟨by rw [show ((k : Int) - 1073) = -52 + (k + 1 - 1023 + 1) by omega]; rfl, n, rfl⟩
/-- math.Frexp at a power of two -/
theorem frexpT_norm (k : Nat) (h1 : 1 ≤ k) (h2 : k < 2047) (w : World) :
    Calls Tryd.prog 20 #[.float .f64 (k * 2 ^ 52)] w fun e w' => e = .returned (.tuple #[.float .f64 4602678819172646912, .int .i64 (k - 1022)]) ∧ ∃ n, w' = w.drewN n := by
  have N := Lib.hid (frexp_norm k h1 h2)
  generalize k * 2 ^ 52 = x at *
  go_enter Tryd.func20, Tryd.ntmps20
  go_wp2_with (go_at_call 31; refine (N.out _).mono ?_; rintro e w' ⟨rfl, rfl⟩)
  go_ret2
  exact ⟨rfl, 0, rfl⟩
theorem frexpT_sub (k : Nat) (hk : k < 52) (w : World) :
    Calls Tryd.prog 20 #[.float .f64 (2 ^ k)] w fun e w' => e = .returned (.tuple #[.float .f64 4602678819172646912, .int .i64 (k - 1073)]) ∧ ∃ n, w' = w.drewN n := by
  have N := Lib.hid (frexp_sub k hk)
  generalize 2 ^ k = x at *
  go_enter Tryd.func20, Tryd.ntmps20
  go_wp2_with (go_at_call 31; refine (N.out _).mono ?_; rintro e w' ⟨rfl, n, rfl⟩)
  go_ret2
  exact ⟨rfl, n, rfl⟩
/-- math.Signbit -/
theorem signbit_any (x : Nat) (hx : x < 2 ^ 64) (w : World) :
    Calls Tryd.prog 17 #[.float .f64 x] w fun e w' => e = .returned (.bool (sg x)) ∧ w = w' := by
  have h2 := f64bits_run
  have e : decide (RowKit.wrap64 (x : Int) < 0) = sg x := by
    have hr := rg_lt x
    cases hs : sg x
    · rw [place_pos x hx hs, pl_false hs]; exact decide_eq_false (by omega)
    · have := sg_true hx hs
      unfold RowKit.wrap64
      exact decide_eq_true (by omega)
  have E := Lib.hid e; clear e hx
  go_enter Tryd.func17, Tryd.ntmps17
  go_wp2
  go_ret
  exact ⟨ret_bool E.out, rfl⟩
end Go.Proofs.YtmfmgofafamemaaDoor
