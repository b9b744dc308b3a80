/- Contracts of package cpx's and surdlaw0's small functions: what each call answers, for any words; the world is as it was but for draws. -/
import Derived.Test.YtmfmgofafamemaaProg
import Derived.Test.YtmfmgofafamemaaFlBits
import Derived.Lib.Hide
namespace Go.Proofs.Ytmfmgofafamemaa
open Fl
theorem f64bits_run (x : Nat) (w : World) : (callFunc 37 #[.float .f64 x]).run Try.prog w = .ok (.value (.int .u64 x)) w := by
  rw [run_callFunc_extern (e := Extern.MathFloatBits.float64bits) Try.func37 (by kernel_rfl) (by kernel_rfl) (by kernel_rfl) (by kernel_rfl)]
  rfl
theorem frombits_run (n : Int) (w : World) : (callFunc 36 #[.int .u64 n]).run Try.prog w = .ok (.value (.float .f64 n.toNat)) w := by
  rw [run_callFunc_extern (e := Extern.MathFloatBits.float64frombits) Try.func36 (by kernel_rfl) (by kernel_rfl) (by kernel_rfl) (by kernel_rfl)]
  rfl

/-- 'math.Abs' -/
theorem abs_any (x : Nat) (hx : x < 2 ^ 64) (w : World) :
    Calls Try.prog 12 #[.float .f64 x] w fun e w' => e = .returned (.float .f64 (rg x)) ∧ w = w' := by
  have h1 := f64bits_run
  have h2 := frombits_run
  have hb := bits_size x hx
  have H := Lib.hid hx; clear hx
  go_enter Try.func12, Try.ntmps12
  go_wp2
  go_ret
  exact ⟨rfl, rfl⟩

/-- 'cpx.turned' -/
theorem turned_any (x : Nat) (hx : x < 2 ^ 64) (w : World) :
    Calls Try.prog 39 #[.float .f64 x] w fun e w' => e = .returned (.float .f64 (neg x)) ∧ w = w' := by
  have h1 := f64bits_run
  have h2 := frombits_run
  have hb := bits_neg x hx
  have H := Lib.hid hx; clear hx
  go_enter Try.func39, Try.ntmps39
  go_wp2
  go_ret
  exact ⟨rfl, rfl⟩

theorem order_nan_same (x y : Nat) : sameB x y = (if FloatKind.f64.format.order x x = some .eq then ((x : Int) == (y : Int)) else if FloatKind.f64.format.order y y = some .eq then ((x : Int) == (y : Int)) else true) := by
  have a := order_self x
  have b := order_self y
  have e : FloatKind.f64.format = D := rfl
  have c : ((x : Int) == (y : Int)) = decide (x = y) := by
    by_cases h : x = y
    · subst h; simp
    · rw [decide_eq_false h]; simp; omega
  rw [e, c]
  unfold sameB Same
  by_cases hx : isNan x
  · rw [if_neg (by rw [a]; exact not_not_intro hx)]
    by_cases hy : isNan y
    · rw [if_neg (by rw [b]; exact not_not_intro hy)]; simp [hx, hy]
    · rw [if_pos (by rw [b]; exact hy)]; simp [hx, hy]
  · rw [if_pos (by rw [a]; exact hx)]; simp [hx]

/-- 'surdlaw0.SameF' -/
theorem sameF_any (x y : Nat) (w : World) :
    Calls Try.prog 28 #[.float .f64 x, .float .f64 y] w fun e w' => e = .returned (.bool (sameB x y)) ∧ w = w' := by
  have h1 := f64bits_run
  have hs := order_nan_same x y
  have H := Lib.hid hs; clear hs
  go_enter Try.func28, Try.ntmps28
  go_wp2
  all_goals (go_ret; rw [H.out]; simp [*])

/-- 'surdlaw0.SameC' -/
theorem sameC_any (a b c d : Nat) (w : World) :
    Calls Try.prog 14 #[.complex .f64 a b, .complex .f64 c d] w fun e w' => e = .returned (.bool (sameCB a b c d)) ∧ w = w' := by
  unfold sameCB
  go_enter Try.func14, Try.ntmps14
  cases h1 : sameB a c
  all_goals
    go_wp2_with (go_at_call 28; refine (sameF_any _ _ _).mono ?_; rintro e w' ⟨rfl, rfl⟩)
    go_ret
    simp [*]

/-- 'surdlaw0.F', 'surdlaw0.C' -/
theorem f_any (a : Int) (w : World) :
    Calls Try.prog 38 #[.int .u64 a] w fun e w' => e = .returned (.float .f64 a.toNat) ∧ w = w' := by
  have h2 := frombits_run
  go_enter Try.func38, Try.ntmps38
  go_wp2
  go_ret
  exact ⟨rfl, rfl⟩
theorem c_any (a b : Int) (w : World) :
    Calls Try.prog 15 #[.int .u64 a, .int .u64 b] w fun e w' => e = .returned (.complex .f64 a.toNat b.toNat) ∧ w = w' := by
  go_enter Try.func15, Try.ntmps15
  go_wp2_with (go_at_call 38; refine (f_any _ _).mono ?_; rintro e w' ⟨rfl, rfl⟩)
  go_ret
  exact ⟨rfl, rfl⟩
theorem num_any (a : Int) (w : World) :
    Calls Try.prog 10 #[.int .i64 a] w fun e w' => e = .returned (.int .i64 a) ∧ w = w' := by
  go_enter Try.func10, Try.ntmps10
  go_wp2
  go_ret
  exact ⟨rfl, rfl⟩

/-- 'cpx.Add' -/
theorem add_any (a b c d : Nat) (w : World) :
    Calls Try.prog 16 #[.complex .f64 a b, .complex .f64 c d] w fun e w' => ∃ x y n, AddR a b c d x y ∧ e = .returned (.complex .f64 x y) ∧ w' = w.drewN n := by
  go_enter Try.func16, Try.ntmps16
  go_wp2
  go_ret
  exact ⟨_, _, _, ⟨fop_add .., fop_add ..⟩, rfl, rfl⟩
/-- 'cpx.Sub' -/
theorem sub_any (a b c d : Nat) (w : World) :
    Calls Try.prog 18 #[.complex .f64 a b, .complex .f64 c d] w fun e w' => ∃ x y n, SubR a b c d x y ∧ e = .returned (.complex .f64 x y) ∧ w' = w.drewN n := by
  go_enter Try.func18, Try.ntmps18
  go_wp2
  go_ret
  exact ⟨_, _, _, ⟨fop_sub .., fop_sub ..⟩, rfl, rfl⟩
/-- 'cpx.Mul' -/
theorem mul_any (a b c d : Nat) (w : World) :
    Calls Try.prog 17 #[.complex .f64 a b, .complex .f64 c d] w fun e w' => ∃ x y n, MulR a b c d x y ∧ e = .returned (.complex .f64 x y) ∧ w' = w.drewN n := by
  go_enter Try.func17, Try.ntmps17
  go_wp2
  go_ret
  exact ⟨_, _, _, ⟨_, _, _, _, fop_mul .., fop_mul .., fop_sub .., fop_mul .., fop_mul .., fop_add ..⟩, rfl, rfl⟩
/-- 'cpx.Div' -/
theorem div_any (a b c d : Nat) (hc : c < 2 ^ 64) (hd : d < 2 ^ 64) (w : World) :
    Calls Try.prog 32 #[.complex .f64 a b, .complex .f64 c d] w fun e w' => ∃ x y n, DivR a b c d x y ∧ e = .returned (.complex .f64 x y) ∧ w' = w.drewN n := by
  have Hc := Lib.hid hc; have Hd := Lib.hid hd; clear hc hd
  cases hg : geB (rg c) (rg d)
  · have hg2 := hg; unfold geB at hg2
    have G := Lib.hid hg; clear hg
    go_enter Try.func32, Try.ntmps32
    go_wp2_with (go_at_call 12; refine (abs_any _ (by first | exact Hc.out | exact Hd.out) _).mono ?_; rintro e w' ⟨rfl, rfl⟩)
    go_ret
    exact ⟨_, _, _, .inr ⟨G.out, _, _, _, _, _, _, _, fop_div .., fop_mul .., fop_add .., fop_mul .., fop_add .., fop_div .., fop_mul .., fop_sub .., fop_div ..⟩, rfl, rfl⟩
  · have hg2 := hg; unfold geB at hg2
    have G := Lib.hid hg; clear hg
    go_enter Try.func32, Try.ntmps32
    go_wp2_with (go_at_call 12; refine (abs_any _ (by first | exact Hc.out | exact Hd.out) _).mono ?_; rintro e w' ⟨rfl, rfl⟩)
    go_ret
    exact ⟨_, _, _, .inl ⟨G.out, _, _, _, _, _, _, _, fop_div .., fop_mul .., fop_add .., fop_mul .., fop_add .., fop_div .., fop_mul .., fop_sub .., fop_div ..⟩, rfl, rfl⟩
/-- 'cpx.Neg', 'cpx.Conj' -/
theorem neg_any (a b : Nat) (ha : a < 2 ^ 64) (hb : b < 2 ^ 64) (w : World) :
    Calls Try.prog 19 #[.complex .f64 a b] w fun e w' => e = .returned (.complex .f64 (neg a) (neg b)) ∧ w = w' := by
  have Ha := Lib.hid ha; have Hb := Lib.hid hb; clear ha hb
  go_enter Try.func19, Try.ntmps19
  go_wp2_with (go_at_call 39; refine (turned_any _ (by first | exact Ha.out | exact Hb.out) _).mono ?_; rintro e w' ⟨rfl, rfl⟩)
  go_ret
  exact ⟨rfl, rfl⟩
theorem conj_any (a b : Nat) (hb : b < 2 ^ 64) (w : World) :
    Calls Try.prog 20 #[.complex .f64 a b] w fun e w' => e = .returned (.complex .f64 a (neg b)) ∧ w = w' := by
  have Hb := Lib.hid hb; clear hb
  go_enter Try.func20, Try.ntmps20
  go_wp2_with (go_at_call 39; refine (turned_any _ Hb.out _).mono ?_; rintro e w' ⟨rfl, rfl⟩)
  go_ret
  exact ⟨rfl, rfl⟩
end Go.Proofs.Ytmfmgofafamemaa
