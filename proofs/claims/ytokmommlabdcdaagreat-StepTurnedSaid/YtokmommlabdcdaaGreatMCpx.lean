/- Contracts of package cpx's and surdlaw0's small functions: what each call answers, for any words; the world is as it was but for draws. Contracts of math's small functions on floats: IsInf, IsNaN, normalize. Contract of math.Ldexp where nothing is small: the exponent's field moves. Contract of math.Ldexp of a whole number of at most 53 bits: the rounded number, where it is great or small too. Contracts of package ieee's functions that look at one word or two: what each answers; the world is as it was. Contracts of cpx.Class, Same, Equal, Scale, Size, and of surdlaw5.like: what each answers. -/
import Derived.Test.YtokmommlabdcdaaGreatProg
import Derived.Test.YtokmommlabdcdaaGreatMFlRel
import Derived.Lib.Hide
set_option linter.unusedVariables false
set_option linter.unusedSimpArgs false
namespace Go.Proofs.YtokmommlabdcdaaGreat
open Fl
theorem f64bits_run (x : Nat) (w : World) : (callFunc 79 #[.float .f64 x]).run Tryz.prog w = .ok (.value (.int .u64 x)) w := by
  rw [run_callFunc_extern (e := Extern.MathFloatBits.float64bits) Tryz.func79 (by kernel_rfl) (by kernel_rfl) (by kernel_rfl) (by kernel_rfl)]
  rfl
theorem frombits_run (n : Int) (w : World) : (callFunc 78 #[.int .u64 n]).run Tryz.prog w = .ok (.value (.float .f64 n.toNat)) w := by
  rw [run_callFunc_extern (e := Extern.MathFloatBits.float64frombits) Tryz.func78 (by kernel_rfl) (by kernel_rfl) (by kernel_rfl) (by kernel_rfl)]
  rfl

/-- 'math.Abs' -/
theorem abs_any (x : Nat) (hx : x < 2 ^ 64) (w : World) :
    Calls Tryz.prog 56 #[.float .f64 x] w fun e w' => e = .returned (.float .f64 (rg x)) ∧ w = w' := by
  have h1 := f64bits_run
  have h2 := frombits_run
  have hb := bits_size x hx
  have H := Lib.hid hx; clear hx
  go_enter Tryz.func56, Tryz.ntmps56
  go_wp2
  go_ret
  exact ⟨rfl, rfl⟩

/-- 'cpx.turned' -/
theorem turned_any (x : Nat) (hx : x < 2 ^ 64) (w : World) :
    Calls Tryz.prog 72 #[.float .f64 x] w fun e w' => e = .returned (.float .f64 (neg x)) ∧ w = w' := by
  have h1 := f64bits_run
  have h2 := frombits_run
  have hb := bits_neg x hx
  have H := Lib.hid hx; clear hx
  go_enter Tryz.func72, Tryz.ntmps72
  go_wp2
  go_ret
  exact ⟨rfl, rfl⟩

theorem order_nan_same (x y : Nat) : sameB x y = (if FloatKind.f64.format.order x x = some .eq then ((x : Int) == (y : Int)) else if FloatKind.f64.format.order y y = some .eq then ((x : Int) == (y : Int)) else true) := by
  have a := order_self x
  have b := order_self y
  have e : FloatKind.f64.format = D := rfl
  have c : ((x : Int) == (y : Int)) = decide (x = y) := by
    by_cases h : x = y
    · subst h; simp
    · rw [decide_eq_false h]; simp; omega
  rw [e, c]
  unfold sameB Same
  by_cases hx : isNan x
  · rw [if_neg (by rw [a]; exact not_not_intro hx)]
    by_cases hy : isNan y
    · rw [if_neg (by rw [b]; exact not_not_intro hy)]; simp [hx, hy]
    · rw [if_pos (by rw [b]; exact hy)]; simp [hx, hy]
  · rw [if_pos (by rw [a]; exact hx)]; simp [hx]

/-- 'surdlaw0.SameF' -/
theorem sameF_any (x y : Nat) (w : World) :
    Calls Tryz.prog 51 #[.float .f64 x, .float .f64 y] w fun e w' => e = .returned (.bool (sameB x y)) ∧ w = w' := by
  have h1 := f64bits_run
  have hs := order_nan_same x y
  have H := Lib.hid hs; clear hs
  go_enter Tryz.func51, Tryz.ntmps51
  go_wp2
  all_goals (go_ret; rw [H.out]; simp [*])

/-- 'surdlaw0.SameC' -/
theorem sameC_any (a b c d : Nat) (w : World) :
    Calls Tryz.prog 14 #[.complex .f64 a b, .complex .f64 c d] w fun e w' => e = .returned (.bool (sameCB a b c d)) ∧ w = w' := by
  unfold sameCB
  go_enter Tryz.func14, Tryz.ntmps14
  cases h1 : sameB a c
  all_goals
    go_wp2_with (go_at_call 51; refine (sameF_any _ _ _).mono ?_; rintro e w' ⟨rfl, rfl⟩)
    go_ret
    simp [*]

/-- 'surdlaw0.F', 'surdlaw0.C' -/
theorem f_any (a : Int) (w : World) :
    Calls Tryz.prog 50 #[.int .u64 a] w fun e w' => e = .returned (.float .f64 a.toNat) ∧ w = w' := by
  have h2 := frombits_run
  go_enter Tryz.func50, Tryz.ntmps50
  go_wp2
  go_ret
  exact ⟨rfl, rfl⟩
theorem c_any (a b : Int) (w : World) :
    Calls Tryz.prog 13 #[.int .u64 a, .int .u64 b] w fun e w' => e = .returned (.complex .f64 a.toNat b.toNat) ∧ w = w' := by
  go_enter Tryz.func13, Tryz.ntmps13
  go_wp2_with (go_at_call 50; refine (f_any _ _).mono ?_; rintro e w' ⟨rfl, rfl⟩)
  go_ret
  exact ⟨rfl, rfl⟩
theorem num_any (a : Int) (w : World) :
    Calls Tryz.prog 30 #[.int .i64 a] w fun e w' => e = .returned (.int .i64 a) ∧ w = w' := by
  go_enter Tryz.func30, Tryz.ntmps30
  go_wp2
  go_ret
  exact ⟨rfl, rfl⟩

/-- 'cpx.Add' -/
theorem add_any (a b c d : Nat) (w : World) :
    Calls Tryz.prog 15 #[.complex .f64 a b, .complex .f64 c d] w fun e w' => ∃ x y n, AddR a b c d x y ∧ e = .returned (.complex .f64 x y) ∧ w' = w.drewN n := by
  go_enter Tryz.func15, Tryz.ntmps15
  go_wp2
  go_ret
  exact ⟨_, _, _, ⟨fop_add .., fop_add ..⟩, rfl, rfl⟩
/-- 'cpx.Sub' -/
theorem sub_any (a b c d : Nat) (w : World) :
    Calls Tryz.prog 17 #[.complex .f64 a b, .complex .f64 c d] w fun e w' => ∃ x y n, SubR a b c d x y ∧ e = .returned (.complex .f64 x y) ∧ w' = w.drewN n := by
  go_enter Tryz.func17, Tryz.ntmps17
  go_wp2
  go_ret
  exact ⟨_, _, _, ⟨fop_sub .., fop_sub ..⟩, rfl, rfl⟩
/-- 'cpx.Mul' -/
theorem mul_any (a b c d : Nat) (w : World) :
    Calls Tryz.prog 19 #[.complex .f64 a b, .complex .f64 c d] w fun e w' => ∃ x y n, MulR a b c d x y ∧ e = .returned (.complex .f64 x y) ∧ w' = w.drewN n := by
  go_enter Tryz.func19, Tryz.ntmps19
  go_wp2
  go_ret
  exact ⟨_, _, _, ⟨_, _, _, _, fop_mul .., fop_mul .., fop_sub .., fop_mul .., fop_mul .., fop_add ..⟩, rfl, rfl⟩
/-- 'cpx.Div' -/
theorem div_any (a b c d : Nat) (hc : c < 2 ^ 64) (hd : d < 2 ^ 64) (w : World) :
    Calls Tryz.prog 23 #[.complex .f64 a b, .complex .f64 c d] w fun e w' => ∃ x y n, DivR a b c d x y ∧ e = .returned (.complex .f64 x y) ∧ w' = w.drewN n := by
  have Hc := Lib.hid hc; have Hd := Lib.hid hd; clear hc hd
  cases hg : geB (rg c) (rg d)
  · have hg2 := hg; unfold geB at hg2
    have G := Lib.hid hg; clear hg
    go_enter Tryz.func23, Tryz.ntmps23
    go_wp2_with (go_at_call 56; refine (abs_any _ (by first | exact Hc.out | exact Hd.out) _).mono ?_; rintro e w' ⟨rfl, rfl⟩)
    go_ret
    exact ⟨_, _, _, .inr ⟨G.out, _, _, _, _, _, _, _, fop_div .., fop_mul .., fop_add .., fop_mul .., fop_add .., fop_div .., fop_mul .., fop_sub .., fop_div ..⟩, rfl, rfl⟩
  · have hg2 := hg; unfold geB at hg2
    have G := Lib.hid hg; clear hg
    go_enter Tryz.func23, Tryz.ntmps23
    go_wp2_with (go_at_call 56; refine (abs_any _ (by first | exact Hc.out | exact Hd.out) _).mono ?_; rintro e w' ⟨rfl, rfl⟩)
    go_ret
    exact ⟨_, _, _, .inl ⟨G.out, _, _, _, _, _, _, _, fop_div .., fop_mul .., fop_add .., fop_mul .., fop_add .., fop_div .., fop_mul .., fop_sub .., fop_div ..⟩, rfl, rfl⟩
/-- 'cpx.Neg', 'cpx.Conj' -/
theorem neg_any (a b : Nat) (ha : a < 2 ^ 64) (hb : b < 2 ^ 64) (w : World) :
    Calls Tryz.prog 43 #[.complex .f64 a b] w fun e w' => e = .returned (.complex .f64 (neg a) (neg b)) ∧ w = w' := by
  have Ha := Lib.hid ha; have Hb := Lib.hid hb; clear ha hb
  go_enter Tryz.func43, Tryz.ntmps43
  go_wp2_with (go_at_call 72; refine (turned_any _ (by first | exact Ha.out | exact Hb.out) _).mono ?_; rintro e w' ⟨rfl, rfl⟩)
  go_ret
  exact ⟨rfl, rfl⟩
theorem conj_any (a b : Nat) (hb : b < 2 ^ 64) (w : World) :
    Calls Tryz.prog 41 #[.complex .f64 a b] w fun e w' => e = .returned (.complex .f64 a (neg b)) ∧ w = w' := by
  have Hb := Lib.hid hb; clear hb
  go_enter Tryz.func41, Tryz.ntmps41
  go_wp2_with (go_at_call 72; refine (turned_any _ Hb.out _).mono ?_; rintro e w' ⟨rfl, rfl⟩)
  go_ret
  exact ⟨rfl, rfl⟩
end Go.Proofs.YtokmommlabdcdaaGreat
namespace Go.Proofs.YtokmommlabdcdaaGreat
open Fl
theorem unary_neg (x : Nat) (hx : x < 2 ^ 64) (w : World) : (Op.unary .neg (.float .f64 x)).run Tryz.prog w = .ok (.float .f64 (neg x)) w := by
  rw [← negFloat_eq x hx]; rfl
theorem rg_lt' (x : Nat) : rg x < 2 ^ 64 := Nat.lt_trans (rg_lt x) (by decide)
/-- math.IsInf -/
theorem isInf0_any (x : Nat) (hx : x < 2 ^ 64) (w : World) :
    Calls Tryz.prog 119 #[.float .f64 x, .int .i64 0] w fun e w' => e = .returned (.bool (decide (rg x = INF))) ∧ w = w' := by
  have G := Lib.hid (gt_max (rg_lt' x))
  have H := Lib.hid hx; clear hx
  go_enter Tryz.func119, Tryz.ntmps119
  go_wp2_with (go_at_call 56; refine (abs_any _ H.out _).mono ?_; rintro e w' ⟨rfl, rfl⟩)
  go_ret
  exact ⟨ret_bool G.out, rfl⟩
theorem isNaN_any (x : Nat) (w : World) :
    Calls Tryz.prog 148 #[.float .f64 x] w fun e w' => e = .returned (.bool (decide (isNan x))) ∧ w = w' := by
  have e : (FloatKind.f64.format.order x x == some Ordering.eq) = decide (¬ isNan x) := beq_dec (order_self x)
  have E := Lib.hid e; clear e
  go_enter Tryz.func148, Tryz.ntmps148
  go_wp2
  go_ret
  exact ⟨ret_bool (by unfold bne; rw [E.out]; by_cases h : isNan x <;> simp [h]), rfl⟩
/-- math.normalize of a normal number -/
theorem normalize_norm (x : Nat) (hx : x < 2 ^ 64) (hf : rg x < INF) (hn : 2 ^ 52 ≤ rg x) (w : World) :
    Calls Tryz.prog 149 #[.float .f64 x] w fun e w' => e = .returned (.tuple #[.float .f64 x, .int .i64 0]) ∧ w = w' := by
  have e : (FloatKind.f64.format.order (rg x) 4503599627370496 == some Ordering.lt) = false := by
    have rr : rg (rg x) = rg x := Nat.mod_eq_of_lt (rg_lt x)
    have sr : sg (rg x) = false := by unfold sg; rw [Nat.div_eq_of_lt (rg_lt x)]; rfl
    rw [lt_small (by unfold isNan; rw [rr]; omega) sr, rr]
    exact decide_eq_false (by omega)
  have H := Lib.hid hx; clear hx hf hn
  go_enter Tryz.func149, Tryz.ntmps149
  go_wp2_with (go_at_call 56; refine (abs_any _ H.out _).mono ?_; rintro e w' ⟨rfl, rfl⟩)
  go_ret2
  exact ⟨rfl, rfl⟩
end Go.Proofs.YtokmommlabdcdaaGreat
namespace Go.Proofs.YtokmommlabdcdaaGreat
open Fl Go.RowKit
theorem ldexp_low (x : Nat) (k : Int) (hx : x < 2 ^ 64) (h0 : 2 ^ 52 ≤ rg x) (hf : rg x < INF) (h1 : 1 ≤ (rg x / 2 ^ 52 : Nat) + k) (h2 : (rg x / 2 ^ 52 : Nat) + k ≤ 2046) (w : World) :
    Calls Tryz.prog 139 #[.float .f64 x, .int .i64 k] w fun e w' => e = .returned (.float .f64 (ldx x k)) ∧ ∃ n, w' = w.drewN n := by
  have h3 := f64bits_run
  have h4 := frombits_run
  have n0 : (FloatKind.f64.format.order x 0 == some Ordering.eq) = false := by
    rw [order_zeroB]; unfold zeroB; exact decide_eq_false (by omega)
  have n1 : decide (rg x = INF) = false := decide_eq_false (by omega)
  have n2 : decide (isNan x) = false := decide_eq_false (by unfold isNan; omega)
  have N := Lib.hid (normalize_norm x hx hf h0)
  obtain ⟨f1, f2, f3, f4⟩ := ldx_facts h1 h2
  have M := Lib.hid (mul_one' f4 f3)
  have H := Lib.hid hx
  obtain ⟨E, hE⟩ : ∃ E, rg x / 2 ^ 52 = E := ⟨_, rfl⟩
  have bE : E < 2047 := by rw [← hE]; exact (Nat.div_lt_iff_lt_mul (by decide)).2 hf
  rw [hE] at h1 h2
  have eE : (x : Int) / 4503599627370496 % 2048 = (E : Int) := by rw [← hE]; unfold rg; omega
  have bx : (x : Int) / 4503599627370496 < 4096 := by omega
  have bx0 : 0 ≤ (x : Int) / 4503599627370496 := by omega
  obtain ⟨A, B, q1, q2, q3⟩ := ldx_bits hx hE h1 h2
  have q4 : (bits .or .u64 (A : Int) ((k + ((E : Int) - 1023) + 1023) * 4503599627370496)).toNat = ldx x k := by
    rw [show k + ((E : Int) - 1023) + 1023 = E + k by omega, q2]; exact q3
  have Q4 := Lib.hid q4
  generalize ldx x k = L at *
  clear hE f1 f2 hf h0 f3 f4 hx q3 q2 q4
  have a1 : RowKit.wrap64 ((x : Int) / 4503599627370496) = (x : Int) / 4503599627370496 := w64 _ (by omega) (by omega)
  have a2 : bits .and .i64 ((x : Int) / 4503599627370496) 2047 = (E : Int) := by rw [i64_and2047, eE]
  have b1 : RowKit.wrap64 ((E : Int) - 1023) = E - 1023 := w64 _ (by omega) (by omega)
  have b2 : RowKit.wrap64 (k + ((E : Int) - 1023)) = k + (E - 1023) := w64 _ (by omega) (by omega)
  have b3 : RowKit.wrap64 k = k := w64 _ (by omega) (by omega)
  have b7 : RowKit.wrap64 (k + ((E : Int) - 1023) + 1023) = k + ((E : Int) - 1023) + 1023 := w64 _ (by omega) (by omega)
  have b8 : IntKind.u64.wrap (k + ((E : Int) - 1023) + 1023) = k + ((E : Int) - 1023) + 1023 := u64w _ (by omega) (by omega)
  have b9 : IntKind.u64.wrap ((k + ((E : Int) - 1023) + 1023) * 4503599627370496) = (k + ((E : Int) - 1023) + 1023) * 4503599627370496 := u64w _ (by omega) (by omega)
  have b4 : ¬ k + ((E : Int) - 1023) < -1075 := by omega
  have b5 : ¬ 1023 < k + ((E : Int) - 1023) := by omega
  have b6 : ¬ k + ((E : Int) - 1023) < -1022 := by omega
  clear eE bx bx0
  clear h1 h2 bE
  go_enter Tryz.func139, Tryz.ntmps139
  go_wp2_with (first | (go_at_call 119; refine (isInf0_any _ H.out _).mono ?_; rintro e w' ⟨rfl, rfl⟩; rw [n1]) | (go_at_call 148; refine (isNaN_any _ _).mono ?_; rintro e w' ⟨rfl, rfl⟩; rw [n2]) | (go_at_call 149; refine (N.out _).mono ?_; rintro e w' ⟨rfl, rfl⟩))
  go_ret
  refine ⟨ret_float ?_, _, rfl⟩
  rw [Q4.out]
  exact Res.eq (fop_mul _ _ _) M.out
/-- math.Ldexp -/
theorem ldexp_any (x : Nat) (k : Int) (hx : x < 2 ^ 64) (h0 : 2 ^ 52 ≤ rg x) (hf : rg x < INF) (h1 : 1 ≤ (rg x / 2 ^ 52 : Nat) + k) (h2 : (rg x / 2 ^ 52 : Nat) + k ≤ 2046) (w : World) :
    Calls Tryz.prog 118 #[.float .f64 x, .int .i64 k] w fun e w' => e = .returned (.float .f64 (ldx x k)) ∧ ∃ n, w' = w.drewN n := by
  have N := Lib.hid (ldexp_low x k hx h0 hf h1 h2)
  clear hx h0 hf h1 h2
  go_enter Tryz.func118, Tryz.ntmps118
  go_wp2_with (go_at_call 139; refine (N.out _).mono ?_; rintro e w' ⟨rfl, n, rfl⟩)
  go_ret
  exact ⟨rfl, _, rfl⟩
end Go.Proofs.YtokmommlabdcdaaGreat
namespace Go.Proofs.YtokmommlabdcdaaGreat
open Fl Go.RowKit
set_option linter.unusedVariables false
set_option linter.unusedSimpArgs false
theorem inf1_any (w : World) :
    Calls Tryz.prog 87 #[.int .i64 1] w fun e w' => e = .returned (.float .f64 9218868437227405312) ∧ w = w' := by
  have h4 := frombits_run
  go_enter Tryz.func87, Tryz.ntmps87
  go_wp2
  go_ret
  exact ⟨rfl, rfl⟩
theorem lt_zero {x : Nat} (nx : ¬ isNan x) (hs : sg x = false) : (FloatKind.f64.format.order x 0 == some Ordering.lt) = false := by
  have h : D.order x 0 = some (compare (iv x) (iv 0)) := order_num nx (by decide)
  have h2 : ¬ D.order x 0 = some Ordering.lt := by
    rw [h, iv_zero]
    intro c
    injection c with c
    rw [Int.compare_eq_lt] at c
    unfold iv at c
    rw [hs] at c
    simp at c
    omega
  exact beq_eq_false_iff_ne.2 h2
theorem ldexp_low_over (x : Nat) (k : Int) (hx : x < 2 ^ 64) (hs : sg x = false) (h0 : 2 ^ 52 ≤ rg x) (hf : rg x < INF) (h1 : 2047 ≤ (rg x / 2 ^ 52 : Nat) + k) (h2 : k ≤ 100000) (w : World) :
    Calls Tryz.prog 139 #[.float .f64 x, .int .i64 k] w fun e w' => e = .returned (.float .f64 INF) ∧ ∃ n, w' = w.drewN n := by
  have h3 := f64bits_run
  have h4 := frombits_run
  have n0 : (FloatKind.f64.format.order x 0 == some Ordering.eq) = false := by
    rw [order_zeroB]; unfold zeroB; exact decide_eq_false (by omega)
  have n1 : decide (rg x = INF) = false := decide_eq_false (by omega)
  have nn : ¬ isNan x := by unfold isNan; omega
  have n2 : decide (isNan x) = false := decide_eq_false nn
  have n3 := lt_zero nn hs
  have N := Lib.hid (normalize_norm x hx hf h0)
  have H := Lib.hid hx
  obtain ⟨E, hE⟩ : ∃ E, rg x / 2 ^ 52 = E := ⟨_, rfl⟩
  have bE : E < 2047 := by rw [← hE]; exact (Nat.div_lt_iff_lt_mul (by decide)).2 hf
  rw [hE] at h1
  have eE : (x : Int) / 4503599627370496 % 2048 = (E : Int) := by rw [← hE]; unfold rg; omega
  have bx : (x : Int) / 4503599627370496 < 4096 := by omega
  have bx0 : 0 ≤ (x : Int) / 4503599627370496 := by omega
  have a1 : RowKit.wrap64 ((x : Int) / 4503599627370496) = (x : Int) / 4503599627370496 := w64 _ (by omega) (by omega)
  have a2 : bits .and .i64 ((x : Int) / 4503599627370496) 2047 = (E : Int) := by rw [i64_and2047, eE]
  have b1 : RowKit.wrap64 ((E : Int) - 1023) = E - 1023 := w64 _ (by omega) (by omega)
  have b2 : RowKit.wrap64 (k + ((E : Int) - 1023)) = k + (E - 1023) := w64 _ (by omega) (by omega)
  have b3 : RowKit.wrap64 k = k := w64 _ (by omega) (by omega)
  have b4 : ¬ k + ((E : Int) - 1023) < -1075 := by omega
  have b5 : 1023 < k + ((E : Int) - 1023) := by omega
  clear eE bx bx0 hE nn hs hf h0 hx h1 h2 bE
  go_enter Tryz.func139, Tryz.ntmps139
  go_wp2_with (first | (go_at_call 119; refine (isInf0_any _ H.out _).mono ?_; rintro e w' ⟨rfl, rfl⟩; rw [n1]) | (go_at_call 148; refine (isNaN_any _ _).mono ?_; rintro e w' ⟨rfl, rfl⟩; rw [n2]) | (go_at_call 149; refine (N.out _).mono ?_; rintro e w' ⟨rfl, rfl⟩) | (go_at_call 87; refine (inf1_any _).mono ?_; rintro e w' ⟨rfl, rfl⟩))
  go_ret
  exact ⟨ret_float (by decide), 0, rfl⟩
theorem ldexp_low_den (x r : Nat) (k : Int) (hx : x < 2 ^ 64) (h0 : 2 ^ 52 ≤ rg x) (hf : rg x < INF) (h1 : (rg x / 2 ^ 52 : Nat) + k ≤ 0) (h2 : -51 ≤ (rg x / 2 ^ 52 : Nat) + k) (hr : D.mul 4368491638549381120 (ldx x (k + 53)) = some r) (w : World) :
    Calls Tryz.prog 139 #[.float .f64 x, .int .i64 k] w fun e w' => e = .returned (.float .f64 r) ∧ ∃ n, w' = w.drewN n := by
  have h3 := f64bits_run
  have h4 := frombits_run
  have n0 : (FloatKind.f64.format.order x 0 == some Ordering.eq) = false := by
    rw [order_zeroB]; unfold zeroB; exact decide_eq_false (by omega)
  have n1 : decide (rg x = INF) = false := decide_eq_false (by omega)
  have n2 : decide (isNan x) = false := decide_eq_false (by unfold isNan; omega)
  have N := Lib.hid (normalize_norm x hx hf h0)
  have M := Lib.hid hr
  have H := Lib.hid hx
  obtain ⟨E, hE⟩ : ∃ E, rg x / 2 ^ 52 = E := ⟨_, rfl⟩
  have bE : E < 2047 := by rw [← hE]; exact (Nat.div_lt_iff_lt_mul (by decide)).2 hf
  rw [hE] at h1 h2
  have eE : (x : Int) / 4503599627370496 % 2048 = (E : Int) := by rw [← hE]; unfold rg; omega
  have bx : (x : Int) / 4503599627370496 < 4096 := by omega
  have bx0 : 0 ≤ (x : Int) / 4503599627370496 := by omega
  obtain ⟨A, B, q1, q2, q3⟩ := ldx_bits (k := k + 53) hx hE (by omega) (by omega)
  have q4 : (bits .or .u64 (A : Int) ((k + ((E : Int) - 1023) + 53 + 1023) * 4503599627370496)).toNat = ldx x (k + 53) := by
    rw [show k + ((E : Int) - 1023) + 53 + 1023 = E + (k + 53) by omega, q2]; exact q3
  have Q4 := Lib.hid q4
  generalize ldx x (k + 53) = L at *
  clear hE hf h0 hx q3 q2 q4 hr
  have a1 : RowKit.wrap64 ((x : Int) / 4503599627370496) = (x : Int) / 4503599627370496 := w64 _ (by omega) (by omega)
  have a2 : bits .and .i64 ((x : Int) / 4503599627370496) 2047 = (E : Int) := by rw [i64_and2047, eE]
  have b1 : RowKit.wrap64 ((E : Int) - 1023) = E - 1023 := w64 _ (by omega) (by omega)
  have b2 : RowKit.wrap64 (k + ((E : Int) - 1023)) = k + (E - 1023) := w64 _ (by omega) (by omega)
  have b3 : RowKit.wrap64 k = k := w64 _ (by omega) (by omega)
  have b10 : RowKit.wrap64 (k + ((E : Int) - 1023) + 53) = k + ((E : Int) - 1023) + 53 := w64 _ (by omega) (by omega)
  have b7 : RowKit.wrap64 (k + ((E : Int) - 1023) + 53 + 1023) = k + ((E : Int) - 1023) + 53 + 1023 := w64 _ (by omega) (by omega)
  have b8 : IntKind.u64.wrap (k + ((E : Int) - 1023) + 53 + 1023) = k + ((E : Int) - 1023) + 53 + 1023 := u64w _ (by omega) (by omega)
  have b9 : IntKind.u64.wrap ((k + ((E : Int) - 1023) + 53 + 1023) * 4503599627370496) = (k + ((E : Int) - 1023) + 53 + 1023) * 4503599627370496 := u64w _ (by omega) (by omega)
  have b4 : ¬ k + ((E : Int) - 1023) < -1075 := by omega
  have b5 : ¬ 1023 < k + ((E : Int) - 1023) := by omega
  have b6 : k + ((E : Int) - 1023) < -1022 := by omega
  clear eE bx bx0
  clear h1 h2 bE
  go_enter Tryz.func139, Tryz.ntmps139
  go_wp2_with (first | (go_at_call 119; refine (isInf0_any _ H.out _).mono ?_; rintro e w' ⟨rfl, rfl⟩; rw [n1]) | (go_at_call 148; refine (isNaN_any _ _).mono ?_; rintro e w' ⟨rfl, rfl⟩; rw [n2]) | (go_at_call 149; refine (N.out _).mono ?_; rintro e w' ⟨rfl, rfl⟩))
  go_ret
  refine ⟨ret_float ?_, _, rfl⟩
  rw [Q4.out]
  exact Res.eq (fop_mul _ _ _) M.out
theorem ldexp_zero (k : Int) (w : World) :
    Calls Tryz.prog 139 #[.float .f64 0, .int .i64 k] w fun e w' => e = .returned (.float .f64 0) ∧ ∃ n, w' = w.drewN n := by
  have n0 : (FloatKind.f64.format.order 0 0 == some Ordering.eq) = true := by decide
  go_enter Tryz.func139, Tryz.ntmps139
  go_wp2
  go_ret
  exact ⟨rfl, 0, rfl⟩
/-- math.Ldexp of a whole number -/
theorem ldexp_int (m : Nat) (K : Int) (hm : m ≤ 2 ^ 53) (hK : -1074 ≤ K) (hK2 : K ≤ 20000) (hc : K = -1074 ∨ 2 ^ 52 ≤ m) (w : World) :
    Calls Tryz.prog 118 #[.float .f64 (Go.floatOfInt .f64 (m : Int)), .int .i64 K] w fun e w' => e = .returned (.float .f64 (wd false (ldR m K))) ∧ ∃ n, w' = w.drewN n := by
  have low : ∀ w : World, Calls Tryz.prog 139 #[.float .f64 (Go.floatOfInt .f64 (m : Int)), .int .i64 K] w fun e w' => e = .returned (.float .f64 (wd false (ldR m K))) ∧ ∃ n, w' = w.drewN n := by
    intro w
    by_cases m0 : m = 0
    · subst m0
      have e1 : Go.floatOfInt .f64 ((0 : Nat) : Int) = 0 := by decide
      have e2 : wd false (ldR 0 K) = 0 := by
        rcases hc with rfl | hc
        · decide
        · omega
      rw [e1, e2]
      exact ldexp_zero K w
    · obtain ⟨L, k, hx, hs, hr, hk1, hk2, hv, hL1, hL2⟩ := word_form (m := m) (by omega) hm
      generalize Go.floatOfInt .f64 (m : Int) = x at *
      have hE : rg x / 2 ^ 52 = L + 1 := by omega
      have hf : rg x < INF := by unfold INF; omega
      have h0 : 2 ^ 52 ≤ rg x := by omega
      by_cases c1 : (L : Int) + K < 0
      · exact ldexp_low_den x _ K hx h0 hf (by rw [hE]; omega) (by rw [hE]; omega) (ld_den hm hr hs hk1 hk2 hv hL1 hK hc c1) w
      · by_cases c2 : (L : Int) + K ≤ 2045
        · rw [← ld_mid hm hr hs hk1 hk2 hv hK hc (by omega) c2]
          exact ldexp_low x K hx h0 hf (by rw [hE]; omega) (by rw [hE]; omega) w
        · rw [ld_over hm hk1 hv hL2 (by omega)]
          exact ldexp_low_over x K hx hs h0 hf (by rw [hE]; omega) (by omega) w
  have N := Lib.hid low
  clear low hm hK hK2 hc
  go_enter Tryz.func118, Tryz.ntmps118
  go_wp2_with (go_at_call 139; refine (N.out _).mono ?_; rintro e w' ⟨rfl, n, rfl⟩)
  go_ret
  exact ⟨rfl, _, rfl⟩
end Go.Proofs.YtokmommlabdcdaaGreat
namespace Go.Proofs.YtokmommlabdcdaaGreat
open Fl

theorem size_any (x : Nat) (hx : x < 2 ^ 64) (w : World) :
    Calls Tryz.prog 97 #[.float .f64 x] w fun e w' => e = .returned (.int .u64 (rg x)) ∧ w = w' := by
  have h1 := f64bits_run
  have hb := bits_size x hx
  have H := Lib.hid hx; clear hx
  go_enter Tryz.func97, Tryz.ntmps97
  go_wp2
  go_ret
  exact ⟨rfl, rfl⟩
theorem none_any (x : Nat) (hx : x < 2 ^ 64) (w : World) :
    Calls Tryz.prog 94 #[.float .f64 x] w fun e w' => e = .returned (.bool (decide (isNan x))) ∧ w = w' := by
  have H := Lib.hid hx; clear hx
  go_enter Tryz.func94, Tryz.ntmps94
  go_wp2_with (go_at_call 97; refine (size_any _ H.out _).mono ?_; rintro e w' ⟨rfl, rfl⟩)
  go_ret
  exact ⟨ret_bool (nan_test x), rfl⟩
theorem none_no (x : Nat) (hx : x < 2 ^ 64) (hn : ¬ isNan x) (w : World) :
    Calls Tryz.prog 94 #[.float .f64 x] w fun e w' => e = .returned (.bool false) ∧ w = w' := by
  refine (none_any x hx w).mono ?_
  rintro e w' ⟨rfl, rfl⟩
  exact ⟨by rw [decide_eq_false hn], rfl⟩
theorem none_yes (x : Nat) (hx : x < 2 ^ 64) (hn : isNan x) (w : World) :
    Calls Tryz.prog 94 #[.float .f64 x] w fun e w' => e = .returned (.bool true) ∧ w = w' := by
  refine (none_any x hx w).mono ?_
  rintro e w' ⟨rfl, rfl⟩
  exact ⟨by rw [decide_eq_true hn], rfl⟩
theorem ieplace_any (x : Nat) (hx : x < 2 ^ 64) (hn : ¬ isNan x) (w : World) :
    Calls Tryz.prog 96 #[.float .f64 x] w fun e w' => e = .returned (.int .i64 (pl x)) ∧ w = w' := by
  have h1 := f64bits_run
  have hb := bits_size x hx
  have hs := sign_test x hx
  have H := Lib.hid hx; have Hn := Lib.hid hn; clear hx hn
  cases hg : sg x
  all_goals
    rw [hg] at hs
    have G := Lib.hid hg; clear hg
    go_enter Tryz.func96, Tryz.ntmps96
    go_wp2_with (go_at_call 94; refine (none_no _ H.out Hn.out _).mono ?_; rintro e w' ⟨rfl, rfl⟩)
    go_ret
  · exact ⟨ret_int (place_pos x H.out G.out), rfl⟩
  · exact ⟨ret_int (place_neg x G.out), rfl⟩
theorem place_nan (x : Nat) (hx : x < 2 ^ 64) (hn : isNan x) (w : World) :
    Calls Tryz.prog 96 #[.float .f64 x] w fun e w' => e = .returned (.int .i64 9223372036854775807) ∧ w = w' := by
  have H := Lib.hid hx; have Hn := Lib.hid hn; clear hx hn
  go_enter Tryz.func96, Tryz.ntmps96
  go_wp2_with (go_at_call 94; refine (none_yes _ H.out Hn.out _).mono ?_; rintro e w' ⟨rfl, rfl⟩)
  go_ret
  exact ⟨rfl, rfl⟩
theorem at_any (x : Nat) (hx : x < 2 ^ 64) (w : World) :
    Calls Tryz.prog 95 #[.int .i64 (pl x)] w fun e w' => e = .returned (.float .f64 x) ∧ w = w' := by
  have h1 := frombits_run
  have hp := pl_neg x
  cases hg : sg x
  · have hp2 : ¬ pl x < 0 := by rw [hp, hg]; decide
    have e := at_pos x hx hg
    have E := Lib.hid e; clear e hp hg hx
    generalize pl x = p at *
    go_enter Tryz.func95, Tryz.ntmps95
    go_wp2
    go_ret
    exact ⟨ret_float E.out, rfl⟩
  · have hp2 : pl x < 0 := by rw [hp, hg]
    have e := at_neg x hx hg
    have E := Lib.hid e; clear e hp hg hx
    generalize pl x = p at *
    go_enter Tryz.func95, Tryz.ntmps95
    go_wp2
    go_ret
    exact ⟨ret_float E.out, rfl⟩
theorem max_any (x y : Nat) (hx : x < 2 ^ 64) (hy : y < 2 ^ 64) (w : World) :
    Calls Tryz.prog 73 #[.float .f64 x, .float .f64 y] w fun e w' => e = .returned (.float .f64 (fmax x y)) ∧ w = w' := by
  have h2 := frombits_run
  by_cases nx : isNan x
  · have e : fmax x y = NANQ := by unfold fmax; rw [if_pos (.inl nx)]
    rw [e]
    have H := Lib.hid hx; have Hn := Lib.hid nx; clear hx nx e hy
    go_enter Tryz.func73, Tryz.ntmps73
    go_wp2_with (go_at_call 94; refine (none_yes _ H.out Hn.out _).mono ?_; rintro e w' ⟨rfl, rfl⟩)
    go_ret
    exact ⟨rfl, rfl⟩
  · by_cases ny : isNan y
    · have e : fmax x y = NANQ := by unfold fmax; rw [if_pos (.inr ny)]
      rw [e]
      have H := Lib.hid hx; have Hn := Lib.hid nx; have H' := Lib.hid hy; have Hn' := Lib.hid ny; clear hx nx e hy ny
      go_enter Tryz.func73, Tryz.ntmps73
      go_wp2_with (first | (go_at_call 94; (with_reducible refine (none_no _ H.out Hn.out _).mono ?_); rintro e w' ⟨rfl, rfl⟩) | (go_at_call 94; (with_reducible refine (none_yes _ H'.out Hn'.out _).mono ?_); rintro e w' ⟨rfl, rfl⟩))
      go_ret
      exact ⟨rfl, rfl⟩
    · have f1 := fmax_r nx ny
      have f2 := fmax_l hx hy nx ny
      have H := Lib.hid hx; have Hn := Lib.hid nx; have H' := Lib.hid hy; have Hn' := Lib.hid ny; have F1 := Lib.hid f1; have F2 := Lib.hid f2; clear hx nx hy ny f1 f2
      go_enter Tryz.func73, Tryz.ntmps73
      go_wp2_with (first | (go_at_call 94; (with_reducible refine (none_no _ H.out Hn.out _).mono ?_); rintro e w' ⟨rfl, rfl⟩) | (go_at_call 94; (with_reducible refine (none_no _ H'.out Hn'.out _).mono ?_); rintro e w' ⟨rfl, rfl⟩) | (go_at_call 96; (with_reducible refine (ieplace_any _ H.out Hn.out _).mono ?_); rintro e w' ⟨rfl, rfl⟩) | (go_at_call 96; (with_reducible refine (ieplace_any _ H'.out Hn'.out _).mono ?_); rintro e w' ⟨rfl, rfl⟩) | (go_at_call 95; (with_reducible refine (at_any _ H.out _).mono ?_); rintro e w' ⟨rfl, rfl⟩) | (go_at_call 95; (with_reducible refine (at_any _ H'.out _).mono ?_); rintro e w' ⟨rfl, rfl⟩))
      · go_ret
        exact ⟨ret_float (F1.out (by omega)).symm, rfl⟩
      · go_ret
        exact ⟨ret_float (F2.out (by omega)).symm, rfl⟩
/-- ieee.Class -/
theorem class_any (x : Nat) (hx : x < 2 ^ 64) (w : World) :
    Calls Tryz.prog 74 #[.float .f64 x] w fun e w' => e = .returned (.int .i64 (clsF x)) ∧ w = w' := by
  have c := clsF_cases x
  have H := Lib.hid hx; have C := Lib.hid c; clear hx c
  go_enter Tryz.func74, Tryz.ntmps74
  go_wp2_with (go_at_call 97; refine (size_any _ H.out _).mono ?_; rintro e w' ⟨rfl, rfl⟩)
  all_goals
    go_ret
    refine ⟨ret_int ?_, rfl⟩
    rw [C.out]
    clear C
    (try simp only [beq_iff_eq, beq_eq_false_iff_ne, ne_eq] at *)
    repeat' split
    all_goals omega
/-- ieee.Same -/
theorem same_any (x y : Nat) (hx : x < 2 ^ 64) (hy : y < 2 ^ 64) (w : World) :
    Calls Tryz.prog 75 #[.float .f64 x, .float .f64 y] w fun e w' => e = .returned (.bool (sameB x y)) ∧ w = w' := by
  have h1 := f64bits_run
  have c := sameB_eq x y
  have H := Lib.hid hx; have H' := Lib.hid hy; have C := Lib.hid c; clear hx hy c
  by_cases nx : isNan x <;> by_cases ny : isNan y
  all_goals
    have Hn := Lib.hid nx; have Hn' := Lib.hid ny; clear nx ny
    go_enter Tryz.func75, Tryz.ntmps75
    go_wp2_with (first | (go_at_call 94; (with_reducible refine (none_no _ H.out Hn.out _).mono ?_); rintro e w' ⟨rfl, rfl⟩) | (go_at_call 94; (with_reducible refine (none_yes _ H.out Hn.out _).mono ?_); rintro e w' ⟨rfl, rfl⟩) | (go_at_call 94; (with_reducible refine (none_no _ H'.out Hn'.out _).mono ?_); rintro e w' ⟨rfl, rfl⟩) | (go_at_call 94; (with_reducible refine (none_yes _ H'.out Hn'.out _).mono ?_); rintro e w' ⟨rfl, rfl⟩))
    go_ret
    exact ⟨ret_bool (by rw [C.out]; simp [Hn.out, Hn'.out]), rfl⟩
end Go.Proofs.YtokmommlabdcdaaGreat
namespace Go.Proofs.YtokmommlabdcdaaGreat
open Fl

theorem csame_any (a b c d : Nat) (ha : a < 2 ^ 64) (hb : b < 2 ^ 64) (hc : c < 2 ^ 64) (hd : d < 2 ^ 64) (w : World) :
    Calls Tryz.prog 46 #[.complex .f64 a b, .complex .f64 c d] w fun e w' => e = .returned (.bool (sameCB a b c d)) ∧ w = w' := by
  unfold sameCB
  have Ha := Lib.hid ha; have Hb := Lib.hid hb; have Hc := Lib.hid hc; have Hd := Lib.hid hd; clear ha hb hc hd
  cases h1 : sameB a c
  all_goals
    go_enter Tryz.func46, Tryz.ntmps46
    go_wp2_with (go_at_call 75; refine (same_any _ _ (by first | exact Ha.out | exact Hb.out) (by first | exact Hc.out | exact Hd.out) _).mono ?_; rintro e w' ⟨rfl, rfl⟩)
    go_ret
    simp [*]
theorem cequal_any (a b c d : Nat) (w : World) :
    Calls Tryz.prog 47 #[.complex .f64 a b, .complex .f64 c d] w fun e w' => e = .returned (.bool (eqB a c && eqB b d)) ∧ w = w' := by
  unfold eqB
  cases h1 : (FloatKind.f64.format.order a c == some Ordering.eq)
  all_goals
    go_enter Tryz.func47, Tryz.ntmps47
    go_wp2
    go_ret
    simp
theorem times_any (x y : Nat) (w : World) :
    Calls Tryz.prog 55 #[.float .f64 x, .float .f64 y] w fun e w' => ∃ r n, FMul x y r ∧ e = .returned (.float .f64 r) ∧ w' = w.drewN n := by
  go_enter Tryz.func55, Tryz.ntmps55
  go_wp2
  go_ret
  exact ⟨_, _, fop_mul .., rfl, rfl⟩
theorem scale_any (a b x : Nat) (w : World) :
    Calls Tryz.prog 21 #[.complex .f64 a b, .float .f64 x] w (CRet (fun p q => FMul a x p ∧ FMul b x q) w) := by
  go_enter Tryz.func21, Tryz.ntmps21
  go_wp2_with fail
  refine (times_any _ _ _).mono ?_; rintro e w1 ⟨p, n1, hp, rfl, rfl⟩
  go_wp2_with fail
  refine (times_any _ _ _).mono ?_; rintro e w1 ⟨q, n2, hq, rfl, rfl⟩
  go_wp2_with fail
  go_ret
  exact CRet.mk _ ⟨hp, hq⟩
theorem csize_any (a b : Nat) (ha : a < 2 ^ 64) (hb : b < 2 ^ 64) (w : World) :
    Calls Tryz.prog 44 #[.complex .f64 a b] w fun e w' => e = .returned (.float .f64 (fmax (rg a) (rg b))) ∧ w = w' := by
  have la : rg a < 2 ^ 64 := Nat.lt_of_lt_of_le (rg_lt a) (by decide)
  have lb : rg b < 2 ^ 64 := Nat.lt_of_lt_of_le (rg_lt b) (by decide)
  have Ha := Lib.hid ha; have Hb := Lib.hid hb; have La := Lib.hid la; have Lb := Lib.hid lb; clear ha hb la lb
  go_enter Tryz.func44, Tryz.ntmps44
  go_wp2_with (first | (go_at_call 56; refine (abs_any _ (by first | exact Ha.out | exact Hb.out) _).mono ?_; rintro e w' ⟨rfl, rfl⟩) | (go_at_call 73; refine (max_any _ _ La.out Lb.out _).mono ?_; rintro e w' ⟨rfl, rfl⟩))
  go_ret
  exact ⟨rfl, rfl⟩
theorem cclass_any (a b : Nat) (ha : a < 2 ^ 64) (hb : b < 2 ^ 64) (w : World) :
    Calls Tryz.prog 45 #[.complex .f64 a b] w fun e w' => e = .returned (.int .i64 (clsC a b)) ∧ w = w' := by
  have c : clsC a b = (if (clsF a == 2 || clsF b == 2) = true then 2 else if (clsF a == 1 || clsF b == 1) = true then 1 else if (clsF a == 3 && clsF b == 3) = true then 3 else 4) := rfl
  have Ha := Lib.hid ha; have Hb := Lib.hid hb; have C := Lib.hid c; clear ha hb c
  go_enter Tryz.func45, Tryz.ntmps45
  go_wp2_with (go_at_call 74; refine (class_any _ (by first | exact Ha.out | exact Hb.out) _).mono ?_; rintro e w' ⟨rfl, rfl⟩)
  all_goals
    go_ret
    refine ⟨ret_int ?_, rfl⟩
    rw [C.out]
    clear C
    simp only [beq_iff_eq, beq_eq_false_iff_ne, ne_eq, Bool.or_eq_true, Bool.and_eq_true] at *
    generalize clsF a = p at *
    generalize clsF b = q at *
    repeat' split
    all_goals omega
end Go.Proofs.YtokmommlabdcdaaGreat
