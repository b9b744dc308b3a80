/- Contracts of package cpx's and surdlaw0's small functions: what each call answers, for any words; the world is as it was but for draws. Contracts of package ieee's functions that look at one word or two: what each answers; the world is as it was. Contracts of cpx.Class, Same, Equal, Scale, Size, and of surdlaw5.like: what each answers. The contract of surdlaw5.whole, and of the conversion of a whole number's float back. Contracts of math's small functions on floats: IsInf, IsNaN, normalize. Contract of math.Ldexp where nothing is small: the exponent's field moves. -/
import Derived.Test.YtokmommlabdcdaaProg
import Derived.Test.YtokmommlabdcdaaMFlRel
import Derived.Lib.Hide
set_option linter.unusedVariables false
set_option linter.unusedSimpArgs false
namespace Go.Proofs.Ytokmommlabdcdaa
open Fl
theorem f64bits_run (x : Nat) (w : World) : (callFunc 48 #[.float .f64 x]).run Try.prog w = .ok (.value (.int .u64 x)) w := by
  rw [run_callFunc_extern (e := Extern.MathFloatBits.float64bits) Try.func48 (by kernel_rfl) (by kernel_rfl) (by kernel_rfl) (by kernel_rfl)]
  rfl
theorem frombits_run (n : Int) (w : World) : (callFunc 47 #[.int .u64 n]).run Try.prog w = .ok (.value (.float .f64 n.toNat)) w := by
  rw [run_callFunc_extern (e := Extern.MathFloatBits.float64frombits) Try.func47 (by kernel_rfl) (by kernel_rfl) (by kernel_rfl) (by kernel_rfl)]
  rfl

/-- 'math.Abs' -/
theorem abs_any (x : Nat) (hx : x < 2 ^ 64) (w : World) :
    Calls Try.prog 22 #[.float .f64 x] w fun e w' => e = .returned (.float .f64 (rg x)) ∧ w = w' := by
  have h1 := f64bits_run
  have h2 := frombits_run
  have hb := bits_size x hx
  have H := Lib.hid hx; clear hx
  go_enter Try.func22, Try.ntmps22
  go_wp2
  go_ret
  exact ⟨rfl, rfl⟩

/-- 'cpx.turned' -/
theorem turned_any (x : Nat) (hx : x < 2 ^ 64) (w : World) :
    Calls Try.prog 68 #[.float .f64 x] w fun e w' => e = .returned (.float .f64 (neg x)) ∧ w = w' := by
  have h1 := f64bits_run
  have h2 := frombits_run
  have hb := bits_neg x hx
  have H := Lib.hid hx; clear hx
  go_enter Try.func68, Try.ntmps68
  go_wp2
  go_ret
  exact ⟨rfl, rfl⟩

theorem order_nan_same (x y : Nat) : sameB x y = (if FloatKind.f64.format.order x x = some .eq then ((x : Int) == (y : Int)) else if FloatKind.f64.format.order y y = some .eq then ((x : Int) == (y : Int)) else true) := by
  have a := order_self x
  have b := order_self y
  have e : FloatKind.f64.format = D := rfl
  have c : ((x : Int) == (y : Int)) = decide (x = y) := by
    by_cases h : x = y
    · subst h; simp
    · rw [decide_eq_false h]; simp; omega
  rw [e, c]
  unfold sameB Same
  by_cases hx : isNan x
  · rw [if_neg (by rw [a]; exact not_not_intro hx)]
    by_cases hy : isNan y
    · rw [if_neg (by rw [b]; exact not_not_intro hy)]; simp [hx, hy]
    · rw [if_pos (by rw [b]; exact hy)]; simp [hx, hy]
  · rw [if_pos (by rw [a]; exact hx)]; simp [hx]

/-- 'surdlaw0.SameF' -/
theorem sameF_any (x y : Nat) (w : World) :
    Calls Try.prog 57 #[.float .f64 x, .float .f64 y] w fun e w' => e = .returned (.bool (sameB x y)) ∧ w = w' := by
  have h1 := f64bits_run
  have hs := order_nan_same x y
  have H := Lib.hid hs; clear hs
  go_enter Try.func57, Try.ntmps57
  go_wp2
  all_goals (go_ret; rw [H.out]; simp [*])

/-- 'surdlaw0.SameC' -/
theorem sameC_any (a b c d : Nat) (w : World) :
    Calls Try.prog 28 #[.complex .f64 a b, .complex .f64 c d] w fun e w' => e = .returned (.bool (sameCB a b c d)) ∧ w = w' := by
  unfold sameCB
  go_enter Try.func28, Try.ntmps28
  cases h1 : sameB a c
  all_goals
    go_wp2_with (go_at_call 57; refine (sameF_any _ _ _).mono ?_; rintro e w' ⟨rfl, rfl⟩)
    go_ret
    simp [*]

theorem num_any (a : Int) (w : World) :
    Calls Try.prog 8 #[.int .i64 a] w fun e w' => e = .returned (.int .i64 a) ∧ w = w' := by
  go_enter Try.func8, Try.ntmps8
  go_wp2
  go_ret
  exact ⟨rfl, rfl⟩

/-- 'cpx.Add' -/
theorem add_any (a b c d : Nat) (w : World) :
    Calls Try.prog 12 #[.complex .f64 a b, .complex .f64 c d] w fun e w' => ∃ x y n, AddR a b c d x y ∧ e = .returned (.complex .f64 x y) ∧ w' = w.drewN n := by
  go_enter Try.func12, Try.ntmps12
  go_wp2
  go_ret
  exact ⟨_, _, _, ⟨fop_add .., fop_add ..⟩, rfl, rfl⟩
/-- 'cpx.Sub' -/
theorem sub_any (a b c d : Nat) (w : World) :
    Calls Try.prog 13 #[.complex .f64 a b, .complex .f64 c d] w fun e w' => ∃ x y n, SubR a b c d x y ∧ e = .returned (.complex .f64 x y) ∧ w' = w.drewN n := by
  go_enter Try.func13, Try.ntmps13
  go_wp2
  go_ret
  exact ⟨_, _, _, ⟨fop_sub .., fop_sub ..⟩, rfl, rfl⟩
/-- 'cpx.Mul' -/
theorem mul_any (a b c d : Nat) (w : World) :
    Calls Try.prog 14 #[.complex .f64 a b, .complex .f64 c d] w fun e w' => ∃ x y n, MulR a b c d x y ∧ e = .returned (.complex .f64 x y) ∧ w' = w.drewN n := by
  go_enter Try.func14, Try.ntmps14
  go_wp2
  go_ret
  exact ⟨_, _, _, ⟨_, _, _, _, fop_mul .., fop_mul .., fop_sub .., fop_mul .., fop_mul .., fop_add ..⟩, rfl, rfl⟩
/-- 'cpx.Div' -/
theorem div_any (a b c d : Nat) (hc : c < 2 ^ 64) (hd : d < 2 ^ 64) (w : World) :
    Calls Try.prog 16 #[.complex .f64 a b, .complex .f64 c d] w fun e w' => ∃ x y n, DivR a b c d x y ∧ e = .returned (.complex .f64 x y) ∧ w' = w.drewN n := by
  have Hc := Lib.hid hc; have Hd := Lib.hid hd; clear hc hd
  cases hg : geB (rg c) (rg d)
  · have hg2 := hg; unfold geB at hg2
    have G := Lib.hid hg; clear hg
    go_enter Try.func16, Try.ntmps16
    go_wp2_with (go_at_call 22; refine (abs_any _ (by first | exact Hc.out | exact Hd.out) _).mono ?_; rintro e w' ⟨rfl, rfl⟩)
    go_ret
    exact ⟨_, _, _, .inr ⟨G.out, _, _, _, _, _, _, _, fop_div .., fop_mul .., fop_add .., fop_mul .., fop_add .., fop_div .., fop_mul .., fop_sub .., fop_div ..⟩, rfl, rfl⟩
  · have hg2 := hg; unfold geB at hg2
    have G := Lib.hid hg; clear hg
    go_enter Try.func16, Try.ntmps16
    go_wp2_with (go_at_call 22; refine (abs_any _ (by first | exact Hc.out | exact Hd.out) _).mono ?_; rintro e w' ⟨rfl, rfl⟩)
    go_ret
    exact ⟨_, _, _, .inl ⟨G.out, _, _, _, _, _, _, _, fop_div .., fop_mul .., fop_add .., fop_mul .., fop_add .., fop_div .., fop_mul .., fop_sub .., fop_div ..⟩, rfl, rfl⟩
/-- 'cpx.Neg', 'cpx.Conj' -/
theorem neg_any (a b : Nat) (ha : a < 2 ^ 64) (hb : b < 2 ^ 64) (w : World) :
    Calls Try.prog 39 #[.complex .f64 a b] w fun e w' => e = .returned (.complex .f64 (neg a) (neg b)) ∧ w = w' := by
  have Ha := Lib.hid ha; have Hb := Lib.hid hb; clear ha hb
  go_enter Try.func39, Try.ntmps39
  go_wp2_with (go_at_call 68; refine (turned_any _ (by first | exact Ha.out | exact Hb.out) _).mono ?_; rintro e w' ⟨rfl, rfl⟩)
  go_ret
  exact ⟨rfl, rfl⟩
theorem conj_any (a b : Nat) (hb : b < 2 ^ 64) (w : World) :
    Calls Try.prog 38 #[.complex .f64 a b] w fun e w' => e = .returned (.complex .f64 a (neg b)) ∧ w = w' := by
  have Hb := Lib.hid hb; clear hb
  go_enter Try.func38, Try.ntmps38
  go_wp2_with (go_at_call 68; refine (turned_any _ Hb.out _).mono ?_; rintro e w' ⟨rfl, rfl⟩)
  go_ret
  exact ⟨rfl, rfl⟩
end Go.Proofs.Ytokmommlabdcdaa
namespace Go.Proofs.Ytokmommlabdcdaa
open Fl

theorem size_any (x : Nat) (hx : x < 2 ^ 64) (w : World) :
    Calls Try.prog 99 #[.float .f64 x] w fun e w' => e = .returned (.int .u64 (rg x)) ∧ w = w' := by
  have h1 := f64bits_run
  have hb := bits_size x hx
  have H := Lib.hid hx; clear hx
  go_enter Try.func99, Try.ntmps99
  go_wp2
  go_ret
  exact ⟨rfl, rfl⟩
theorem none_any (x : Nat) (hx : x < 2 ^ 64) (w : World) :
    Calls Try.prog 96 #[.float .f64 x] w fun e w' => e = .returned (.bool (decide (isNan x))) ∧ w = w' := by
  have H := Lib.hid hx; clear hx
  go_enter Try.func96, Try.ntmps96
  go_wp2_with (go_at_call 99; refine (size_any _ H.out _).mono ?_; rintro e w' ⟨rfl, rfl⟩)
  go_ret
  exact ⟨ret_bool (nan_test x), rfl⟩
theorem none_no (x : Nat) (hx : x < 2 ^ 64) (hn : ¬ isNan x) (w : World) :
    Calls Try.prog 96 #[.float .f64 x] w fun e w' => e = .returned (.bool false) ∧ w = w' := by
  refine (none_any x hx w).mono ?_
  rintro e w' ⟨rfl, rfl⟩
  exact ⟨by rw [decide_eq_false hn], rfl⟩
theorem none_yes (x : Nat) (hx : x < 2 ^ 64) (hn : isNan x) (w : World) :
    Calls Try.prog 96 #[.float .f64 x] w fun e w' => e = .returned (.bool true) ∧ w = w' := by
  refine (none_any x hx w).mono ?_
  rintro e w' ⟨rfl, rfl⟩
  exact ⟨by rw [decide_eq_true hn], rfl⟩
theorem ieplace_any (x : Nat) (hx : x < 2 ^ 64) (hn : ¬ isNan x) (w : World) :
    Calls Try.prog 98 #[.float .f64 x] w fun e w' => e = .returned (.int .i64 (pl x)) ∧ w = w' := by
  have h1 := f64bits_run
  have hb := bits_size x hx
  have hs := sign_test x hx
  have H := Lib.hid hx; have Hn := Lib.hid hn; clear hx hn
  cases hg : sg x
  all_goals
    rw [hg] at hs
    have G := Lib.hid hg; clear hg
    go_enter Try.func98, Try.ntmps98
    go_wp2_with (go_at_call 96; refine (none_no _ H.out Hn.out _).mono ?_; rintro e w' ⟨rfl, rfl⟩)
    go_ret
  · exact ⟨ret_int (place_pos x H.out G.out), rfl⟩
  · exact ⟨ret_int (place_neg x G.out), rfl⟩
theorem place_nan (x : Nat) (hx : x < 2 ^ 64) (hn : isNan x) (w : World) :
    Calls Try.prog 98 #[.float .f64 x] w fun e w' => e = .returned (.int .i64 9223372036854775807) ∧ w = w' := by
  have H := Lib.hid hx; have Hn := Lib.hid hn; clear hx hn
  go_enter Try.func98, Try.ntmps98
  go_wp2_with (go_at_call 96; refine (none_yes _ H.out Hn.out _).mono ?_; rintro e w' ⟨rfl, rfl⟩)
  go_ret
  exact ⟨rfl, rfl⟩
theorem at_any (x : Nat) (hx : x < 2 ^ 64) (w : World) :
    Calls Try.prog 97 #[.int .i64 (pl x)] w fun e w' => e = .returned (.float .f64 x) ∧ w = w' := by
  have h1 := frombits_run
  have hp := pl_neg x
  cases hg : sg x
  · have hp2 : ¬ pl x < 0 := by rw [hp, hg]; decide
    have e := at_pos x hx hg
    have E := Lib.hid e; clear e hp hg hx
    generalize pl x = p at *
    go_enter Try.func97, Try.ntmps97
    go_wp2
    go_ret
    exact ⟨ret_float E.out, rfl⟩
  · have hp2 : pl x < 0 := by rw [hp, hg]
    have e := at_neg x hx hg
    have E := Lib.hid e; clear e hp hg hx
    generalize pl x = p at *
    go_enter Try.func97, Try.ntmps97
    go_wp2
    go_ret
    exact ⟨ret_float E.out, rfl⟩
theorem max_any (x y : Nat) (hx : x < 2 ^ 64) (hy : y < 2 ^ 64) (w : World) :
    Calls Try.prog 70 #[.float .f64 x, .float .f64 y] w fun e w' => e = .returned (.float .f64 (fmax x y)) ∧ w = w' := by
  have h2 := frombits_run
  by_cases nx : isNan x
  · have e : fmax x y = NANQ := by unfold fmax; rw [if_pos (.inl nx)]
    rw [e]
    have H := Lib.hid hx; have Hn := Lib.hid nx; clear hx nx e hy
    go_enter Try.func70, Try.ntmps70
    go_wp2_with (go_at_call 96; refine (none_yes _ H.out Hn.out _).mono ?_; rintro e w' ⟨rfl, rfl⟩)
    go_ret
    exact ⟨rfl, rfl⟩
  · by_cases ny : isNan y
    · have e : fmax x y = NANQ := by unfold fmax; rw [if_pos (.inr ny)]
      rw [e]
      have H := Lib.hid hx; have Hn := Lib.hid nx; have H' := Lib.hid hy; have Hn' := Lib.hid ny; clear hx nx e hy ny
      go_enter Try.func70, Try.ntmps70
      go_wp2_with (first | (go_at_call 96; (with_reducible refine (none_no _ H.out Hn.out _).mono ?_); rintro e w' ⟨rfl, rfl⟩) | (go_at_call 96; (with_reducible refine (none_yes _ H'.out Hn'.out _).mono ?_); rintro e w' ⟨rfl, rfl⟩))
      go_ret
      exact ⟨rfl, rfl⟩
    · have f1 := fmax_r nx ny
      have f2 := fmax_l hx hy nx ny
      have H := Lib.hid hx; have Hn := Lib.hid nx; have H' := Lib.hid hy; have Hn' := Lib.hid ny; have F1 := Lib.hid f1; have F2 := Lib.hid f2; clear hx nx hy ny f1 f2
      go_enter Try.func70, Try.ntmps70
      go_wp2_with (first | (go_at_call 96; (with_reducible refine (none_no _ H.out Hn.out _).mono ?_); rintro e w' ⟨rfl, rfl⟩) | (go_at_call 96; (with_reducible refine (none_no _ H'.out Hn'.out _).mono ?_); rintro e w' ⟨rfl, rfl⟩) | (go_at_call 98; (with_reducible refine (ieplace_any _ H.out Hn.out _).mono ?_); rintro e w' ⟨rfl, rfl⟩) | (go_at_call 98; (with_reducible refine (ieplace_any _ H'.out Hn'.out _).mono ?_); rintro e w' ⟨rfl, rfl⟩) | (go_at_call 97; (with_reducible refine (at_any _ H.out _).mono ?_); rintro e w' ⟨rfl, rfl⟩) | (go_at_call 97; (with_reducible refine (at_any _ H'.out _).mono ?_); rintro e w' ⟨rfl, rfl⟩))
      · go_ret
        exact ⟨ret_float (F1.out (by omega)).symm, rfl⟩
      · go_ret
        exact ⟨ret_float (F2.out (by omega)).symm, rfl⟩
/-- ieee.Class -/
theorem class_any (x : Nat) (hx : x < 2 ^ 64) (w : World) :
    Calls Try.prog 71 #[.float .f64 x] w fun e w' => e = .returned (.int .i64 (clsF x)) ∧ w = w' := by
  have c := clsF_cases x
  have H := Lib.hid hx; have C := Lib.hid c; clear hx c
  go_enter Try.func71, Try.ntmps71
  go_wp2_with (go_at_call 99; refine (size_any _ H.out _).mono ?_; rintro e w' ⟨rfl, rfl⟩)
  all_goals
    go_ret
    refine ⟨ret_int ?_, rfl⟩
    rw [C.out]
    clear C
    (try simp only [beq_iff_eq, beq_eq_false_iff_ne, ne_eq] at *)
    repeat' split
    all_goals omega
/-- ieee.Same -/
theorem same_any (x y : Nat) (hx : x < 2 ^ 64) (hy : y < 2 ^ 64) (w : World) :
    Calls Try.prog 72 #[.float .f64 x, .float .f64 y] w fun e w' => e = .returned (.bool (sameB x y)) ∧ w = w' := by
  have h1 := f64bits_run
  have c := sameB_eq x y
  have H := Lib.hid hx; have H' := Lib.hid hy; have C := Lib.hid c; clear hx hy c
  by_cases nx : isNan x <;> by_cases ny : isNan y
  all_goals
    have Hn := Lib.hid nx; have Hn' := Lib.hid ny; clear nx ny
    go_enter Try.func72, Try.ntmps72
    go_wp2_with (first | (go_at_call 96; (with_reducible refine (none_no _ H.out Hn.out _).mono ?_); rintro e w' ⟨rfl, rfl⟩) | (go_at_call 96; (with_reducible refine (none_yes _ H.out Hn.out _).mono ?_); rintro e w' ⟨rfl, rfl⟩) | (go_at_call 96; (with_reducible refine (none_no _ H'.out Hn'.out _).mono ?_); rintro e w' ⟨rfl, rfl⟩) | (go_at_call 96; (with_reducible refine (none_yes _ H'.out Hn'.out _).mono ?_); rintro e w' ⟨rfl, rfl⟩))
    go_ret
    exact ⟨ret_bool (by rw [C.out]; simp [Hn.out, Hn'.out]), rfl⟩
end Go.Proofs.Ytokmommlabdcdaa
namespace Go.Proofs.Ytokmommlabdcdaa
open Fl

theorem csame_any (a b c d : Nat) (ha : a < 2 ^ 64) (hb : b < 2 ^ 64) (hc : c < 2 ^ 64) (hd : d < 2 ^ 64) (w : World) :
    Calls Try.prog 43 #[.complex .f64 a b, .complex .f64 c d] w fun e w' => e = .returned (.bool (sameCB a b c d)) ∧ w = w' := by
  unfold sameCB
  have Ha := Lib.hid ha; have Hb := Lib.hid hb; have Hc := Lib.hid hc; have Hd := Lib.hid hd; clear ha hb hc hd
  cases h1 : sameB a c
  all_goals
    go_enter Try.func43, Try.ntmps43
    go_wp2_with (go_at_call 72; refine (same_any _ _ (by first | exact Ha.out | exact Hb.out) (by first | exact Hc.out | exact Hd.out) _).mono ?_; rintro e w' ⟨rfl, rfl⟩)
    go_ret
    simp [*]
theorem cequal_any (a b c d : Nat) (w : World) :
    Calls Try.prog 44 #[.complex .f64 a b, .complex .f64 c d] w fun e w' => e = .returned (.bool (eqB a c && eqB b d)) ∧ w = w' := by
  unfold eqB
  cases h1 : (FloatKind.f64.format.order a c == some Ordering.eq)
  all_goals
    go_enter Try.func44, Try.ntmps44
    go_wp2
    go_ret
    simp
theorem times_any (x y : Nat) (w : World) :
    Calls Try.prog 69 #[.float .f64 x, .float .f64 y] w fun e w' => ∃ r n, FMul x y r ∧ e = .returned (.float .f64 r) ∧ w' = w.drewN n := by
  go_enter Try.func69, Try.ntmps69
  go_wp2
  go_ret
  exact ⟨_, _, fop_mul .., rfl, rfl⟩
theorem scale_any (a b x : Nat) (w : World) :
    Calls Try.prog 40 #[.complex .f64 a b, .float .f64 x] w (CRet (fun p q => FMul a x p ∧ FMul b x q) w) := by
  go_enter Try.func40, Try.ntmps40
  go_wp2_with fail
  refine (times_any _ _ _).mono ?_; rintro e w1 ⟨p, n1, hp, rfl, rfl⟩
  go_wp2_with fail
  refine (times_any _ _ _).mono ?_; rintro e w1 ⟨q, n2, hq, rfl, rfl⟩
  go_wp2_with fail
  go_ret
  exact CRet.mk _ ⟨hp, hq⟩
theorem csize_any (a b : Nat) (ha : a < 2 ^ 64) (hb : b < 2 ^ 64) (w : World) :
    Calls Try.prog 41 #[.complex .f64 a b] w fun e w' => e = .returned (.float .f64 (fmax (rg a) (rg b))) ∧ w = w' := by
  have la : rg a < 2 ^ 64 := Nat.lt_of_lt_of_le (rg_lt a) (by decide)
  have lb : rg b < 2 ^ 64 := Nat.lt_of_lt_of_le (rg_lt b) (by decide)
  have Ha := Lib.hid ha; have Hb := Lib.hid hb; have La := Lib.hid la; have Lb := Lib.hid lb; clear ha hb la lb
  go_enter Try.func41, Try.ntmps41
  go_wp2_with (first | (go_at_call 22; refine (abs_any _ (by first | exact Ha.out | exact Hb.out) _).mono ?_; rintro e w' ⟨rfl, rfl⟩) | (go_at_call 70; refine (max_any _ _ La.out Lb.out _).mono ?_; rintro e w' ⟨rfl, rfl⟩))
  go_ret
  exact ⟨rfl, rfl⟩
theorem cclass_any (a b : Nat) (ha : a < 2 ^ 64) (hb : b < 2 ^ 64) (w : World) :
    Calls Try.prog 42 #[.complex .f64 a b] w fun e w' => e = .returned (.int .i64 (clsC a b)) ∧ w = w' := by
  have c : clsC a b = (if (clsF a == 2 || clsF b == 2) = true then 2 else if (clsF a == 1 || clsF b == 1) = true then 1 else if (clsF a == 3 && clsF b == 3) = true then 3 else 4) := rfl
  have Ha := Lib.hid ha; have Hb := Lib.hid hb; have C := Lib.hid c; clear ha hb c
  go_enter Try.func42, Try.ntmps42
  go_wp2_with (go_at_call 71; refine (class_any _ (by first | exact Ha.out | exact Hb.out) _).mono ?_; rintro e w' ⟨rfl, rfl⟩)
  all_goals
    go_ret
    refine ⟨ret_int ?_, rfl⟩
    rw [C.out]
    clear C
    simp only [beq_iff_eq, beq_eq_false_iff_ne, ne_eq, Bool.or_eq_true, Bool.and_eq_true] at *
    generalize clsF a = p at *
    generalize clsF b = q at *
    repeat' split
    all_goals omega
end Go.Proofs.Ytokmommlabdcdaa
namespace Go.Proofs.Ytokmommlabdcdaa
open Fl Go.RowKit

/-- the whole number of a word, and its float -/
def whI (n : Nat) : Int := ((n % 16777216 : Nat) : Int) - 8388608
def wh (n : Nat) : Nat := floatOfInt .f64 (whI n)
theorem whI_bound (n : Nat) : (whI n).natAbs ≤ 2 ^ 23 := by unfold whI; omega
theorem wh_isI (n : Nat) : IsI (wh n) (whI n) := IsI.ofInt _ (by have := whI_bound n; omega)
theorem lwhole_any (n : Nat) (hn : n < 2 ^ 64) (w : World) :
    Calls Try.prog 11 #[.int .u64 n] w fun e w' => e = .returned (.float .f64 (wh n)) ∧ w = w' := by
  have h1 : (0 : Int) ≤ (n : Int) := by omega
  have hw : wh n = floatOfInt .f64 (((n % 16777216 : Nat) : Int) - 8388608) := rfl
  have HW := Lib.hid hw; clear hw hn
  go_enter Try.func11, Try.ntmps11
  go_wp2
  go_ret
  refine ⟨ret_float ?_, rfl⟩
  rw [HW.out]
  rfl
theorem conv_isI {x : Nat} {m : Int} (h : IsI x m) (hb : m.natAbs < 2 ^ 63) (w : World) : (convert 36 2 (.float .f64 x)).run Try.prog w = .ok (.int .i64 m) w :=
  run_convert_float_int w 36 2 .f64 .i64 x m (by kernel_rfl) Try.underlying2 (h.toInt hb)
/-- the numbers that CpxOrders makes of pairs of words -/
def whC (z : Cpx) : Cpx := (wh z.1, wh z.2)
theorem nth_map_whC (bs : List Cpx) (k : Nat) (hk : k < bs.length) : nth (bs.map whC) k = whC (nth bs k) := by
  simp [nth, List.getD_eq_getElem?_getD, hk]
/-- the sums of the first k -/
def reS (bs : List Cpx) (k : Nat) : Int := ((bs.take k).map fun z => whI z.1).sum
def imS (bs : List Cpx) (k : Nat) : Int := ((bs.take k).map fun z => whI z.2).sum
theorem intL_take (bs : List Cpx) (k : Nat) : IntL ((bs.take k).map whC) (reS bs k) (imS bs k) := by
  unfold reS imS
  induction bs.take k with
  | nil => exact .nil
  | cons z r ih =>
    simp only [List.map_cons, List.sum_cons]
    exact .cons _ _ _ _ _ _ (wh_isI _) (wh_isI _) (whI_bound _) (whI_bound _) ih
theorem reS_succ (bs : List Cpx) (k : Nat) (hk : k < bs.length) : reS bs (k + 1) = reS bs k + whI (nth bs k).1 := by
  unfold reS
  rw [List.take_succ_eq_append_getElem hk, List.map_append, List.sum_append]
  have : nth bs k = bs[k] := by simp [nth, List.getD_eq_getElem?_getD, hk]
  rw [this]; simp
theorem imS_succ (bs : List Cpx) (k : Nat) (hk : k < bs.length) : imS bs (k + 1) = imS bs k + whI (nth bs k).2 := by
  unfold imS
  rw [List.take_succ_eq_append_getElem hk, List.map_append, List.sum_append]
  have : nth bs k = bs[k] := by simp [nth, List.getD_eq_getElem?_getD, hk]
  rw [this]; simp
theorem sums_bound (bs : List Cpx) (k : Nat) : (reS bs k).natAbs ≤ k * 2 ^ 23 ∧ (imS bs k).natAbs ≤ k * 2 ^ 23 := by
  have := (intL_take bs k).bound
  have l : ((bs.take k).map whC).length ≤ k := by rw [List.length_map]; exact List.length_take_le _ _
  exact ⟨Nat.le_trans this.1 (Nat.mul_le_mul_right _ l), Nat.le_trans this.2 (Nat.mul_le_mul_right _ l)⟩
end Go.Proofs.Ytokmommlabdcdaa
namespace Go.Proofs.Ytokmommlabdcdaa
open Fl
theorem unary_neg (x : Nat) (hx : x < 2 ^ 64) (w : World) : (Op.unary .neg (.float .f64 x)).run Try.prog w = .ok (.float .f64 (neg x)) w := by
  rw [← negFloat_eq x hx]; rfl
theorem rg_lt' (x : Nat) : rg x < 2 ^ 64 := Nat.lt_trans (rg_lt x) (by decide)
/-- math.IsInf -/
theorem isInf0_any (x : Nat) (hx : x < 2 ^ 64) (w : World) :
    Calls Try.prog 58 #[.float .f64 x, .int .i64 0] w fun e w' => e = .returned (.bool (decide (rg x = INF))) ∧ w = w' := by
  have G := Lib.hid (gt_max (rg_lt' x))
  have H := Lib.hid hx; clear hx
  go_enter Try.func58, Try.ntmps58
  go_wp2_with (go_at_call 22; refine (abs_any _ H.out _).mono ?_; rintro e w' ⟨rfl, rfl⟩)
  go_ret
  exact ⟨ret_bool G.out, rfl⟩
theorem isNaN_any (x : Nat) (w : World) :
    Calls Try.prog 59 #[.float .f64 x] w fun e w' => e = .returned (.bool (decide (isNan x))) ∧ w = w' := by
  have e : (FloatKind.f64.format.order x x == some Ordering.eq) = decide (¬ isNan x) := beq_dec (order_self x)
  have E := Lib.hid e; clear e
  go_enter Try.func59, Try.ntmps59
  go_wp2
  go_ret
  exact ⟨ret_bool (by unfold bne; rw [E.out]; by_cases h : isNan x <;> simp [h]), rfl⟩
/-- math.normalize of a normal number -/
theorem normalize_norm (x : Nat) (hx : x < 2 ^ 64) (hf : rg x < INF) (hn : 2 ^ 52 ≤ rg x) (w : World) :
    Calls Try.prog 60 #[.float .f64 x] w fun e w' => e = .returned (.tuple #[.float .f64 x, .int .i64 0]) ∧ w = w' := by
  have e : (FloatKind.f64.format.order (rg x) 4503599627370496 == some Ordering.lt) = false := by
    have rr : rg (rg x) = rg x := Nat.mod_eq_of_lt (rg_lt x)
    have sr : sg (rg x) = false := by unfold sg; rw [Nat.div_eq_of_lt (rg_lt x)]; rfl
    rw [lt_small (by unfold isNan; rw [rr]; omega) sr, rr]
    exact decide_eq_false (by omega)
  have H := Lib.hid hx; clear hx hf hn
  go_enter Try.func60, Try.ntmps60
  go_wp2_with (go_at_call 22; refine (abs_any _ H.out _).mono ?_; rintro e w' ⟨rfl, rfl⟩)
  go_ret2
  exact ⟨rfl, rfl⟩
end Go.Proofs.Ytokmommlabdcdaa
namespace Go.Proofs.Ytokmommlabdcdaa
open Fl Go.RowKit
theorem ldexp_low (x : Nat) (k : Int) (hx : x < 2 ^ 64) (h0 : 2 ^ 52 ≤ rg x) (hf : rg x < INF) (h1 : 1 ≤ (rg x / 2 ^ 52 : Nat) + k) (h2 : (rg x / 2 ^ 52 : Nat) + k ≤ 2046) (w : World) :
    Calls Try.prog 30 #[.float .f64 x, .int .i64 k] w fun e w' => e = .returned (.float .f64 (ldx x k)) ∧ ∃ n, w' = w.drewN n := by
  have h3 := f64bits_run
  have h4 := frombits_run
  have n0 : (FloatKind.f64.format.order x 0 == some Ordering.eq) = false := by
    rw [order_zeroB]; unfold zeroB; exact decide_eq_false (by omega)
  have n1 : decide (rg x = INF) = false := decide_eq_false (by omega)
  have n2 : decide (isNan x) = false := decide_eq_false (by unfold isNan; omega)
  have N := Lib.hid (normalize_norm x hx hf h0)
  obtain ⟨f1, f2, f3, f4⟩ := ldx_facts h1 h2
  have M := Lib.hid (mul_one' f4 f3)
  have H := Lib.hid hx
  obtain ⟨E, hE⟩ : ∃ E, rg x / 2 ^ 52 = E := ⟨_, rfl⟩
  have bE : E < 2047 := by rw [← hE]; exact (Nat.div_lt_iff_lt_mul (by decide)).2 hf
  rw [hE] at h1 h2
  have eE : (x : Int) / 4503599627370496 % 2048 = (E : Int) := by rw [← hE]; unfold rg; omega
  have bx : (x : Int) / 4503599627370496 < 4096 := by omega
  have bx0 : 0 ≤ (x : Int) / 4503599627370496 := by omega
  obtain ⟨A, B, q1, q2, q3⟩ := ldx_bits hx hE h1 h2
  have q4 : (bits .or .u64 (A : Int) ((k + ((E : Int) - 1023) + 1023) * 4503599627370496)).toNat = ldx x k := by
    rw [show k + ((E : Int) - 1023) + 1023 = E + k by omega, q2]; exact q3
  have Q4 := Lib.hid q4
  generalize ldx x k = L at *
  clear hE f1 f2 hf h0 f3 f4 hx q3 q2 q4
  have a1 : RowKit.wrap64 ((x : Int) / 4503599627370496) = (x : Int) / 4503599627370496 := w64 _ (by omega) (by omega)
  have a2 : bits .and .i64 ((x : Int) / 4503599627370496) 2047 = (E : Int) := by rw [i64_and2047, eE]
  have b1 : RowKit.wrap64 ((E : Int) - 1023) = E - 1023 := w64 _ (by omega) (by omega)
  have b2 : RowKit.wrap64 (k + ((E : Int) - 1023)) = k + (E - 1023) := w64 _ (by omega) (by omega)
  have b3 : RowKit.wrap64 k = k := w64 _ (by omega) (by omega)
  have b7 : RowKit.wrap64 (k + ((E : Int) - 1023) + 1023) = k + ((E : Int) - 1023) + 1023 := w64 _ (by omega) (by omega)
  have b8 : IntKind.u64.wrap (k + ((E : Int) - 1023) + 1023) = k + ((E : Int) - 1023) + 1023 := u64w _ (by omega) (by omega)
  have b9 : IntKind.u64.wrap ((k + ((E : Int) - 1023) + 1023) * 4503599627370496) = (k + ((E : Int) - 1023) + 1023) * 4503599627370496 := u64w _ (by omega) (by omega)
  have b4 : ¬ k + ((E : Int) - 1023) < -1075 := by omega
  have b5 : ¬ 1023 < k + ((E : Int) - 1023) := by omega
  have b6 : ¬ k + ((E : Int) - 1023) < -1022 := by omega
  clear eE bx bx0
  clear h1 h2 bE
  go_enter Try.func30, Try.ntmps30
  go_wp2_with (first | (go_at_call 58; refine (isInf0_any _ H.out _).mono ?_; rintro e w' ⟨rfl, rfl⟩; rw [n1]) | (go_at_call 59; refine (isNaN_any _ _).mono ?_; rintro e w' ⟨rfl, rfl⟩; rw [n2]) | (go_at_call 60; refine (N.out _).mono ?_; rintro e w' ⟨rfl, rfl⟩))
  go_ret
  refine ⟨ret_float ?_, _, rfl⟩
  rw [Q4.out]
  exact Res.eq (fop_mul _ _ _) M.out
/-- math.Ldexp -/
theorem ldexp_any (x : Nat) (k : Int) (hx : x < 2 ^ 64) (h0 : 2 ^ 52 ≤ rg x) (hf : rg x < INF) (h1 : 1 ≤ (rg x / 2 ^ 52 : Nat) + k) (h2 : (rg x / 2 ^ 52 : Nat) + k ≤ 2046) (w : World) :
    Calls Try.prog 15 #[.float .f64 x, .int .i64 k] w fun e w' => e = .returned (.float .f64 (ldx x k)) ∧ ∃ n, w' = w.drewN n := by
  have N := Lib.hid (ldexp_low x k hx h0 hf h1 h2)
  clear hx h0 hf h1 h2
  go_enter Try.func15, Try.ntmps15
  go_wp2_with (go_at_call 30; refine (N.out _).mono ?_; rintro e w' ⟨rfl, n, rfl⟩)
  go_ret
  exact ⟨rfl, _, rfl⟩
end Go.Proofs.Ytokmommlabdcdaa
