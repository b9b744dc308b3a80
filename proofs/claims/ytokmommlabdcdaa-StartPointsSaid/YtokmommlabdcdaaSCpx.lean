/- Contracts of package cpx's and surdlaw0's small functions: what each call answers, for any words; the world is as it was but for draws. Contracts of math's small functions on floats: IsInf, IsNaN, normalize. Contract of math.Ldexp where nothing is small: the exponent's field moves. Contract of math.Ldexp of a whole number of at most 53 bits: the rounded number, where it is great or small too. -/
import Derived.Test.YtokmommlabdcdaaProg
import Derived.Test.YtokmommlabdcdaaSFlRel
import Derived.Lib.Hide
set_option linter.unusedVariables false
set_option linter.unusedSimpArgs false
namespace Go.Proofs.Ytokmommlabdcdaa
open Fl
theorem f64bits_run (x : Nat) (w : World) : (callFunc 48 #[.float .f64 x]).run Try.prog w = .ok (.value (.int .u64 x)) w := by
  rw [run_callFunc_extern (e := Extern.MathFloatBits.float64bits) Try.func48 (by kernel_rfl) (by kernel_rfl) (by kernel_rfl) (by kernel_rfl)]
  rfl
theorem frombits_run (n : Int) (w : World) : (callFunc 47 #[.int .u64 n]).run Try.prog w = .ok (.value (.float .f64 n.toNat)) w := by
  rw [run_callFunc_extern (e := Extern.MathFloatBits.float64frombits) Try.func47 (by kernel_rfl) (by kernel_rfl) (by kernel_rfl) (by kernel_rfl)]
  rfl

/-- 'math.Abs' -/
theorem abs_any (x : Nat) (hx : x < 2 ^ 64) (w : World) :
    Calls Try.prog 22 #[.float .f64 x] w fun e w' => e = .returned (.float .f64 (rg x)) ∧ w = w' := by
  have h1 := f64bits_run
  have h2 := frombits_run
  have hb := bits_size x hx
  have H := Lib.hid hx; clear hx
  go_enter Try.func22, Try.ntmps22
  go_wp2
  go_ret
  exact ⟨rfl, rfl⟩

/-- 'cpx.turned' -/
theorem turned_any (x : Nat) (hx : x < 2 ^ 64) (w : World) :
    Calls Try.prog 68 #[.float .f64 x] w fun e w' => e = .returned (.float .f64 (neg x)) ∧ w = w' := by
  have h1 := f64bits_run
  have h2 := frombits_run
  have hb := bits_neg x hx
  have H := Lib.hid hx; clear hx
  go_enter Try.func68, Try.ntmps68
  go_wp2
  go_ret
  exact ⟨rfl, rfl⟩

theorem order_nan_same (x y : Nat) : sameB x y = (if FloatKind.f64.format.order x x = some .eq then ((x : Int) == (y : Int)) else if FloatKind.f64.format.order y y = some .eq then ((x : Int) == (y : Int)) else true) := by
  have a := order_self x
  have b := order_self y
  have e : FloatKind.f64.format = D := rfl
  have c : ((x : Int) == (y : Int)) = decide (x = y) := by
    by_cases h : x = y
    · subst h; simp
    · rw [decide_eq_false h]; simp; omega
  rw [e, c]
  unfold sameB Same
  by_cases hx : isNan x
  · rw [if_neg (by rw [a]; exact not_not_intro hx)]
    by_cases hy : isNan y
    · rw [if_neg (by rw [b]; exact not_not_intro hy)]; simp [hx, hy]
    · rw [if_pos (by rw [b]; exact hy)]; simp [hx, hy]
  · rw [if_pos (by rw [a]; exact hx)]; simp [hx]

/-- 'surdlaw0.SameF' -/
theorem sameF_any (x y : Nat) (w : World) :
    Calls Try.prog 57 #[.float .f64 x, .float .f64 y] w fun e w' => e = .returned (.bool (sameB x y)) ∧ w = w' := by
  have h1 := f64bits_run
  have hs := order_nan_same x y
  have H := Lib.hid hs; clear hs
  go_enter Try.func57, Try.ntmps57
  go_wp2
  all_goals (go_ret; rw [H.out]; simp [*])

/-- 'surdlaw0.SameC' -/
theorem sameC_any (a b c d : Nat) (w : World) :
    Calls Try.prog 28 #[.complex .f64 a b, .complex .f64 c d] w fun e w' => e = .returned (.bool (sameCB a b c d)) ∧ w = w' := by
  unfold sameCB
  go_enter Try.func28, Try.ntmps28
  cases h1 : sameB a c
  all_goals
    go_wp2_with (go_at_call 57; refine (sameF_any _ _ _).mono ?_; rintro e w' ⟨rfl, rfl⟩)
    go_ret
    simp [*]

theorem num_any (a : Int) (w : World) :
    Calls Try.prog 8 #[.int .i64 a] w fun e w' => e = .returned (.int .i64 a) ∧ w = w' := by
  go_enter Try.func8, Try.ntmps8
  go_wp2
  go_ret
  exact ⟨rfl, rfl⟩

/-- 'cpx.Add' -/
theorem add_any (a b c d : Nat) (w : World) :
    Calls Try.prog 12 #[.complex .f64 a b, .complex .f64 c d] w fun e w' => ∃ x y n, AddR a b c d x y ∧ e = .returned (.complex .f64 x y) ∧ w' = w.drewN n := by
  go_enter Try.func12, Try.ntmps12
  go_wp2
  go_ret
  exact ⟨_, _, _, ⟨fop_add .., fop_add ..⟩, rfl, rfl⟩
/-- 'cpx.Sub' -/
theorem sub_any (a b c d : Nat) (w : World) :
    Calls Try.prog 13 #[.complex .f64 a b, .complex .f64 c d] w fun e w' => ∃ x y n, SubR a b c d x y ∧ e = .returned (.complex .f64 x y) ∧ w' = w.drewN n := by
  go_enter Try.func13, Try.ntmps13
  go_wp2
  go_ret
  exact ⟨_, _, _, ⟨fop_sub .., fop_sub ..⟩, rfl, rfl⟩
/-- 'cpx.Mul' -/
theorem mul_any (a b c d : Nat) (w : World) :
    Calls Try.prog 14 #[.complex .f64 a b, .complex .f64 c d] w fun e w' => ∃ x y n, MulR a b c d x y ∧ e = .returned (.complex .f64 x y) ∧ w' = w.drewN n := by
  go_enter Try.func14, Try.ntmps14
  go_wp2
  go_ret
  exact ⟨_, _, _, ⟨_, _, _, _, fop_mul .., fop_mul .., fop_sub .., fop_mul .., fop_mul .., fop_add ..⟩, rfl, rfl⟩
/-- 'cpx.Div' -/
theorem div_any (a b c d : Nat) (hc : c < 2 ^ 64) (hd : d < 2 ^ 64) (w : World) :
    Calls Try.prog 16 #[.complex .f64 a b, .complex .f64 c d] w fun e w' => ∃ x y n, DivR a b c d x y ∧ e = .returned (.complex .f64 x y) ∧ w' = w.drewN n := by
  have Hc := Lib.hid hc; have Hd := Lib.hid hd; clear hc hd
  cases hg : geB (rg c) (rg d)
  · have hg2 := hg; unfold geB at hg2
    have G := Lib.hid hg; clear hg
    go_enter Try.func16, Try.ntmps16
    go_wp2_with (go_at_call 22; refine (abs_any _ (by first | exact Hc.out | exact Hd.out) _).mono ?_; rintro e w' ⟨rfl, rfl⟩)
    go_ret
    exact ⟨_, _, _, .inr ⟨G.out, _, _, _, _, _, _, _, fop_div .., fop_mul .., fop_add .., fop_mul .., fop_add .., fop_div .., fop_mul .., fop_sub .., fop_div ..⟩, rfl, rfl⟩
  · have hg2 := hg; unfold geB at hg2
    have G := Lib.hid hg; clear hg
    go_enter Try.func16, Try.ntmps16
    go_wp2_with (go_at_call 22; refine (abs_any _ (by first | exact Hc.out | exact Hd.out) _).mono ?_; rintro e w' ⟨rfl, rfl⟩)
    go_ret
    exact ⟨_, _, _, .inl ⟨G.out, _, _, _, _, _, _, _, fop_div .., fop_mul .., fop_add .., fop_mul .., fop_add .., fop_div .., fop_mul .., fop_sub .., fop_div ..⟩, rfl, rfl⟩
/-- 'cpx.Neg', 'cpx.Conj' -/
theorem neg_any (a b : Nat) (ha : a < 2 ^ 64) (hb : b < 2 ^ 64) (w : World) :
    Calls Try.prog 39 #[.complex .f64 a b] w fun e w' => e = .returned (.complex .f64 (neg a) (neg b)) ∧ w = w' := by
  have Ha := Lib.hid ha; have Hb := Lib.hid hb; clear ha hb
  go_enter Try.func39, Try.ntmps39
  go_wp2_with (go_at_call 68; refine (turned_any _ (by first | exact Ha.out | exact Hb.out) _).mono ?_; rintro e w' ⟨rfl, rfl⟩)
  go_ret
  exact ⟨rfl, rfl⟩
theorem conj_any (a b : Nat) (hb : b < 2 ^ 64) (w : World) :
    Calls Try.prog 38 #[.complex .f64 a b] w fun e w' => e = .returned (.complex .f64 a (neg b)) ∧ w = w' := by
  have Hb := Lib.hid hb; clear hb
  go_enter Try.func38, Try.ntmps38
  go_wp2_with (go_at_call 68; refine (turned_any _ Hb.out _).mono ?_; rintro e w' ⟨rfl, rfl⟩)
  go_ret
  exact ⟨rfl, rfl⟩
end Go.Proofs.Ytokmommlabdcdaa
namespace Go.Proofs.Ytokmommlabdcdaa
open Fl
theorem unary_neg (x : Nat) (hx : x < 2 ^ 64) (w : World) : (Op.unary .neg (.float .f64 x)).run Try.prog w = .ok (.float .f64 (neg x)) w := by
  rw [← negFloat_eq x hx]; rfl
theorem rg_lt' (x : Nat) : rg x < 2 ^ 64 := Nat.lt_trans (rg_lt x) (by decide)
/-- math.IsInf -/
theorem isInf0_any (x : Nat) (hx : x < 2 ^ 64) (w : World) :
    Calls Try.prog 58 #[.float .f64 x, .int .i64 0] w fun e w' => e = .returned (.bool (decide (rg x = INF))) ∧ w = w' := by
  have G := Lib.hid (gt_max (rg_lt' x))
  have H := Lib.hid hx; clear hx
  go_enter Try.func58, Try.ntmps58
  go_wp2_with (go_at_call 22; refine (abs_any _ H.out _).mono ?_; rintro e w' ⟨rfl, rfl⟩)
  go_ret
  exact ⟨ret_bool G.out, rfl⟩
theorem isNaN_any (x : Nat) (w : World) :
    Calls Try.prog 59 #[.float .f64 x] w fun e w' => e = .returned (.bool (decide (isNan x))) ∧ w = w' := by
  have e : (FloatKind.f64.format.order x x == some Ordering.eq) = decide (¬ isNan x) := beq_dec (order_self x)
  have E := Lib.hid e; clear e
  go_enter Try.func59, Try.ntmps59
  go_wp2
  go_ret
  exact ⟨ret_bool (by unfold bne; rw [E.out]; by_cases h : isNan x <;> simp [h]), rfl⟩
/-- math.normalize of a normal number -/
theorem normalize_norm (x : Nat) (hx : x < 2 ^ 64) (hf : rg x < INF) (hn : 2 ^ 52 ≤ rg x) (w : World) :
    Calls Try.prog 60 #[.float .f64 x] w fun e w' => e = .returned (.tuple #[.float .f64 x, .int .i64 0]) ∧ w = w' := by
  have e : (FloatKind.f64.format.order (rg x) 4503599627370496 == some Ordering.lt) = false := by
    have rr : rg (rg x) = rg x := Nat.mod_eq_of_lt (rg_lt x)
    have sr : sg (rg x) = false := by unfold sg; rw [Nat.div_eq_of_lt (rg_lt x)]; rfl
    rw [lt_small (by unfold isNan; rw [rr]; omega) sr, rr]
    exact decide_eq_false (by omega)
  have H := Lib.hid hx; clear hx hf hn
  go_enter Try.func60, Try.ntmps60
  go_wp2_with (go_at_call 22; refine (abs_any _ H.out _).mono ?_; rintro e w' ⟨rfl, rfl⟩)
  go_ret2
  exact ⟨rfl, rfl⟩
end Go.Proofs.Ytokmommlabdcdaa
namespace Go.Proofs.Ytokmommlabdcdaa
open Fl Go.RowKit
theorem ldexp_low (x : Nat) (k : Int) (hx : x < 2 ^ 64) (h0 : 2 ^ 52 ≤ rg x) (hf : rg x < INF) (h1 : 1 ≤ (rg x / 2 ^ 52 : Nat) + k) (h2 : (rg x / 2 ^ 52 : Nat) + k ≤ 2046) (w : World) :
    Calls Try.prog 30 #[.float .f64 x, .int .i64 k] w fun e w' => e = .returned (.float .f64 (ldx x k)) ∧ ∃ n, w' = w.drewN n := by
  have h3 := f64bits_run
  have h4 := frombits_run
  have n0 : (FloatKind.f64.format.order x 0 == some Ordering.eq) = false := by
    rw [order_zeroB]; unfold zeroB; exact decide_eq_false (by omega)
  have n1 : decide (rg x = INF) = false := decide_eq_false (by omega)
  have n2 : decide (isNan x) = false := decide_eq_false (by unfold isNan; omega)
  have N := Lib.hid (normalize_norm x hx hf h0)
  obtain ⟨f1, f2, f3, f4⟩ := ldx_facts h1 h2
  have M := Lib.hid (mul_one' f4 f3)
  have H := Lib.hid hx
  obtain ⟨E, hE⟩ : ∃ E, rg x / 2 ^ 52 = E := ⟨_, rfl⟩
  have bE : E < 2047 := by rw [← hE]; exact (Nat.div_lt_iff_lt_mul (by decide)).2 hf
  rw [hE] at h1 h2
  have eE : (x : Int) / 4503599627370496 % 2048 = (E : Int) := by rw [← hE]; unfold rg; omega
  have bx : (x : Int) / 4503599627370496 < 4096 := by omega
  have bx0 : 0 ≤ (x : Int) / 4503599627370496 := by omega
  obtain ⟨A, B, q1, q2, q3⟩ := ldx_bits hx hE h1 h2
  have q4 : (bits .or .u64 (A : Int) ((k + ((E : Int) - 1023) + 1023) * 4503599627370496)).toNat = ldx x k := by
    rw [show k + ((E : Int) - 1023) + 1023 = E + k by omega, q2]; exact q3
  have Q4 := Lib.hid q4
  generalize ldx x k = L at *
  clear hE f1 f2 hf h0 f3 f4 hx q3 q2 q4
  have a1 : RowKit.wrap64 ((x : Int) / 4503599627370496) = (x : Int) / 4503599627370496 := w64 _ (by omega) (by omega)
  have a2 : bits .and .i64 ((x : Int) / 4503599627370496) 2047 = (E : Int) := by rw [i64_and2047, eE]
  have b1 : RowKit.wrap64 ((E : Int) - 1023) = E - 1023 := w64 _ (by omega) (by omega)
  have b2 : RowKit.wrap64 (k + ((E : Int) - 1023)) = k + (E - 1023) := w64 _ (by omega) (by omega)
  have b3 : RowKit.wrap64 k = k := w64 _ (by omega) (by omega)
  have b7 : RowKit.wrap64 (k + ((E : Int) - 1023) + 1023) = k + ((E : Int) - 1023) + 1023 := w64 _ (by omega) (by omega)
  have b8 : IntKind.u64.wrap (k + ((E : Int) - 1023) + 1023) = k + ((E : Int) - 1023) + 1023 := u64w _ (by omega) (by omega)
  have b9 : IntKind.u64.wrap ((k + ((E : Int) - 1023) + 1023) * 4503599627370496) = (k + ((E : Int) - 1023) + 1023) * 4503599627370496 := u64w _ (by omega) (by omega)
  have b4 : ¬ k + ((E : Int) - 1023) < -1075 := by omega
  have b5 : ¬ 1023 < k + ((E : Int) - 1023) := by omega
  have b6 : ¬ k + ((E : Int) - 1023) < -1022 := by omega
  clear eE bx bx0
  clear h1 h2 bE
  go_enter Try.func30, Try.ntmps30
  go_wp2_with (first | (go_at_call 58; refine (isInf0_any _ H.out _).mono ?_; rintro e w' ⟨rfl, rfl⟩; rw [n1]) | (go_at_call 59; refine (isNaN_any _ _).mono ?_; rintro e w' ⟨rfl, rfl⟩; rw [n2]) | (go_at_call 60; refine (N.out _).mono ?_; rintro e w' ⟨rfl, rfl⟩))
  go_ret
  refine ⟨ret_float ?_, _, rfl⟩
  rw [Q4.out]
  exact Res.eq (fop_mul _ _ _) M.out
/-- math.Ldexp -/
theorem ldexp_any (x : Nat) (k : Int) (hx : x < 2 ^ 64) (h0 : 2 ^ 52 ≤ rg x) (hf : rg x < INF) (h1 : 1 ≤ (rg x / 2 ^ 52 : Nat) + k) (h2 : (rg x / 2 ^ 52 : Nat) + k ≤ 2046) (w : World) :
    Calls Try.prog 15 #[.float .f64 x, .int .i64 k] w fun e w' => e = .returned (.float .f64 (ldx x k)) ∧ ∃ n, w' = w.drewN n := by
  have N := Lib.hid (ldexp_low x k hx h0 hf h1 h2)
  clear hx h0 hf h1 h2
  go_enter Try.func15, Try.ntmps15
  go_wp2_with (go_at_call 30; refine (N.out _).mono ?_; rintro e w' ⟨rfl, n, rfl⟩)
  go_ret
  exact ⟨rfl, _, rfl⟩
end Go.Proofs.Ytokmommlabdcdaa
namespace Go.Proofs.Ytokmommlabdcdaa
open Fl Go.RowKit
set_option linter.unusedVariables false
set_option linter.unusedSimpArgs false
theorem inf1_any (w : World) :
    Calls Try.prog 62 #[.int .i64 1] w fun e w' => e = .returned (.float .f64 9218868437227405312) ∧ w = w' := by
  have h4 := frombits_run
  go_enter Try.func62, Try.ntmps62
  go_wp2
  go_ret
  exact ⟨rfl, rfl⟩
theorem lt_zero {x : Nat} (nx : ¬ isNan x) (hs : sg x = false) : (FloatKind.f64.format.order x 0 == some Ordering.lt) = false := by
  have h : D.order x 0 = some (compare (iv x) (iv 0)) := order_num nx (by decide)
  have h2 : ¬ D.order x 0 = some Ordering.lt := by
    rw [h, iv_zero]
    intro c
    injection c with c
    rw [Int.compare_eq_lt] at c
    unfold iv at c
    rw [hs] at c
    simp at c
    omega
  exact beq_eq_false_iff_ne.2 h2
theorem ldexp_low_over (x : Nat) (k : Int) (hx : x < 2 ^ 64) (hs : sg x = false) (h0 : 2 ^ 52 ≤ rg x) (hf : rg x < INF) (h1 : 2047 ≤ (rg x / 2 ^ 52 : Nat) + k) (h2 : k ≤ 100000) (w : World) :
    Calls Try.prog 30 #[.float .f64 x, .int .i64 k] w fun e w' => e = .returned (.float .f64 INF) ∧ ∃ n, w' = w.drewN n := by
  have h3 := f64bits_run
  have h4 := frombits_run
  have n0 : (FloatKind.f64.format.order x 0 == some Ordering.eq) = false := by
    rw [order_zeroB]; unfold zeroB; exact decide_eq_false (by omega)
  have n1 : decide (rg x = INF) = false := decide_eq_false (by omega)
  have nn : ¬ isNan x := by unfold isNan; omega
  have n2 : decide (isNan x) = false := decide_eq_false nn
  have n3 := lt_zero nn hs
  have N := Lib.hid (normalize_norm x hx hf h0)
  have H := Lib.hid hx
  obtain ⟨E, hE⟩ : ∃ E, rg x / 2 ^ 52 = E := ⟨_, rfl⟩
  have bE : E < 2047 := by rw [← hE]; exact (Nat.div_lt_iff_lt_mul (by decide)).2 hf
  rw [hE] at h1
  have eE : (x : Int) / 4503599627370496 % 2048 = (E : Int) := by rw [← hE]; unfold rg; omega
  have bx : (x : Int) / 4503599627370496 < 4096 := by omega
  have bx0 : 0 ≤ (x : Int) / 4503599627370496 := by omega
  have a1 : RowKit.wrap64 ((x : Int) / 4503599627370496) = (x : Int) / 4503599627370496 := w64 _ (by omega) (by omega)
  have a2 : bits .and .i64 ((x : Int) / 4503599627370496) 2047 = (E : Int) := by rw [i64_and2047, eE]
  have b1 : RowKit.wrap64 ((E : Int) - 1023) = E - 1023 := w64 _ (by omega) (by omega)
  have b2 : RowKit.wrap64 (k + ((E : Int) - 1023)) = k + (E - 1023) := w64 _ (by omega) (by omega)
  have b3 : RowKit.wrap64 k = k := w64 _ (by omega) (by omega)
  have b4 : ¬ k + ((E : Int) - 1023) < -1075 := by omega
  have b5 : 1023 < k + ((E : Int) - 1023) := by omega
  clear eE bx bx0 hE nn hs hf h0 hx h1 h2 bE
  go_enter Try.func30, Try.ntmps30
  go_wp2_with (first | (go_at_call 58; refine (isInf0_any _ H.out _).mono ?_; rintro e w' ⟨rfl, rfl⟩; rw [n1]) | (go_at_call 59; refine (isNaN_any _ _).mono ?_; rintro e w' ⟨rfl, rfl⟩; rw [n2]) | (go_at_call 60; refine (N.out _).mono ?_; rintro e w' ⟨rfl, rfl⟩) | (go_at_call 62; refine (inf1_any _).mono ?_; rintro e w' ⟨rfl, rfl⟩))
  go_ret
  exact ⟨ret_float (by decide), 0, rfl⟩
theorem ldexp_low_den (x r : Nat) (k : Int) (hx : x < 2 ^ 64) (h0 : 2 ^ 52 ≤ rg x) (hf : rg x < INF) (h1 : (rg x / 2 ^ 52 : Nat) + k ≤ 0) (h2 : -51 ≤ (rg x / 2 ^ 52 : Nat) + k) (hr : D.mul 4368491638549381120 (ldx x (k + 53)) = some r) (w : World) :
    Calls Try.prog 30 #[.float .f64 x, .int .i64 k] w fun e w' => e = .returned (.float .f64 r) ∧ ∃ n, w' = w.drewN n := by
  have h3 := f64bits_run
  have h4 := frombits_run
  have n0 : (FloatKind.f64.format.order x 0 == some Ordering.eq) = false := by
    rw [order_zeroB]; unfold zeroB; exact decide_eq_false (by omega)
  have n1 : decide (rg x = INF) = false := decide_eq_false (by omega)
  have n2 : decide (isNan x) = false := decide_eq_false (by unfold isNan; omega)
  have N := Lib.hid (normalize_norm x hx hf h0)
  have M := Lib.hid hr
  have H := Lib.hid hx
  obtain ⟨E, hE⟩ : ∃ E, rg x / 2 ^ 52 = E := ⟨_, rfl⟩
  have bE : E < 2047 := by rw [← hE]; exact (Nat.div_lt_iff_lt_mul (by decide)).2 hf
  rw [hE] at h1 h2
  have eE : (x : Int) / 4503599627370496 % 2048 = (E : Int) := by rw [← hE]; unfold rg; omega
  have bx : (x : Int) / 4503599627370496 < 4096 := by omega
  have bx0 : 0 ≤ (x : Int) / 4503599627370496 := by omega
  obtain ⟨A, B, q1, q2, q3⟩ := ldx_bits (k := k + 53) hx hE (by omega) (by omega)
  have q4 : (bits .or .u64 (A : Int) ((k + ((E : Int) - 1023) + 53 + 1023) * 4503599627370496)).toNat = ldx x (k + 53) := by
    rw [show k + ((E : Int) - 1023) + 53 + 1023 = E + (k + 53) by omega, q2]; exact q3
  have Q4 := Lib.hid q4
  generalize ldx x (k + 53) = L at *
  clear hE hf h0 hx q3 q2 q4 hr
  have a1 : RowKit.wrap64 ((x : Int) / 4503599627370496) = (x : Int) / 4503599627370496 := w64 _ (by omega) (by omega)
  have a2 : bits .and .i64 ((x : Int) / 4503599627370496) 2047 = (E : Int) := by rw [i64_and2047, eE]
  have b1 : RowKit.wrap64 ((E : Int) - 1023) = E - 1023 := w64 _ (by omega) (by omega)
  have b2 : RowKit.wrap64 (k + ((E : Int) - 1023)) = k + (E - 1023) := w64 _ (by omega) (by omega)
  have b3 : RowKit.wrap64 k = k := w64 _ (by omega) (by omega)
  have b10 : RowKit.wrap64 (k + ((E : Int) - 1023) + 53) = k + ((E : Int) - 1023) + 53 := w64 _ (by omega) (by omega)
  have b7 : RowKit.wrap64 (k + ((E : Int) - 1023) + 53 + 1023) = k + ((E : Int) - 1023) + 53 + 1023 := w64 _ (by omega) (by omega)
  have b8 : IntKind.u64.wrap (k + ((E : Int) - 1023) + 53 + 1023) = k + ((E : Int) - 1023) + 53 + 1023 := u64w _ (by omega) (by omega)
  have b9 : IntKind.u64.wrap ((k + ((E : Int) - 1023) + 53 + 1023) * 4503599627370496) = (k + ((E : Int) - 1023) + 53 + 1023) * 4503599627370496 := u64w _ (by omega) (by omega)
  have b4 : ¬ k + ((E : Int) - 1023) < -1075 := by omega
  have b5 : ¬ 1023 < k + ((E : Int) - 1023) := by omega
  have b6 : k + ((E : Int) - 1023) < -1022 := by omega
  clear eE bx bx0
  clear h1 h2 bE
  go_enter Try.func30, Try.ntmps30
  go_wp2_with (first | (go_at_call 58; refine (isInf0_any _ H.out _).mono ?_; rintro e w' ⟨rfl, rfl⟩; rw [n1]) | (go_at_call 59; refine (isNaN_any _ _).mono ?_; rintro e w' ⟨rfl, rfl⟩; rw [n2]) | (go_at_call 60; refine (N.out _).mono ?_; rintro e w' ⟨rfl, rfl⟩))
  go_ret
  refine ⟨ret_float ?_, _, rfl⟩
  rw [Q4.out]
  exact Res.eq (fop_mul _ _ _) M.out
theorem ldexp_zero (k : Int) (w : World) :
    Calls Try.prog 30 #[.float .f64 0, .int .i64 k] w fun e w' => e = .returned (.float .f64 0) ∧ ∃ n, w' = w.drewN n := by
  have n0 : (FloatKind.f64.format.order 0 0 == some Ordering.eq) = true := by decide
  go_enter Try.func30, Try.ntmps30
  go_wp2
  go_ret
  exact ⟨rfl, 0, rfl⟩
/-- math.Ldexp of a whole number -/
theorem ldexp_int (m : Nat) (K : Int) (hm : m ≤ 2 ^ 53) (hK : -1074 ≤ K) (hK2 : K ≤ 20000) (hc : K = -1074 ∨ 2 ^ 52 ≤ m) (w : World) :
    Calls Try.prog 15 #[.float .f64 (Go.floatOfInt .f64 (m : Int)), .int .i64 K] w fun e w' => e = .returned (.float .f64 (wd false (ldR m K))) ∧ ∃ n, w' = w.drewN n := by
  have low : ∀ w : World, Calls Try.prog 30 #[.float .f64 (Go.floatOfInt .f64 (m : Int)), .int .i64 K] w fun e w' => e = .returned (.float .f64 (wd false (ldR m K))) ∧ ∃ n, w' = w.drewN n := by
    intro w
    by_cases m0 : m = 0
    · subst m0
      have e1 : Go.floatOfInt .f64 ((0 : Nat) : Int) = 0 := by decide
      have e2 : wd false (ldR 0 K) = 0 := by
        rcases hc with rfl | hc
        · decide
        · omega
      rw [e1, e2]
      exact ldexp_zero K w
    · obtain ⟨L, k, hx, hs, hr, hk1, hk2, hv, hL1, hL2⟩ := word_form (m := m) (by omega) hm
      generalize Go.floatOfInt .f64 (m : Int) = x at *
      have hE : rg x / 2 ^ 52 = L + 1 := by omega
      have hf : rg x < INF := by unfold INF; omega
      have h0 : 2 ^ 52 ≤ rg x := by omega
      by_cases c1 : (L : Int) + K < 0
      · exact ldexp_low_den x _ K hx h0 hf (by rw [hE]; omega) (by rw [hE]; omega) (ld_den hm hr hs hk1 hk2 hv hL1 hK hc c1) w
      · by_cases c2 : (L : Int) + K ≤ 2045
        · rw [← ld_mid hm hr hs hk1 hk2 hv hK hc (by omega) c2]
          exact ldexp_low x K hx h0 hf (by rw [hE]; omega) (by rw [hE]; omega) w
        · rw [ld_over hm hk1 hv hL2 (by omega)]
          exact ldexp_low_over x K hx hs h0 hf (by rw [hE]; omega) (by omega) w
  have N := Lib.hid low
  clear low hm hK hK2 hc
  go_enter Try.func15, Try.ntmps15
  go_wp2_with (go_at_call 30; refine (N.out _).mono ?_; rintro e w' ⟨rfl, n, rfl⟩)
  go_ret
  exact ⟨rfl, _, rfl⟩
end Go.Proofs.Ytokmommlabdcdaa
