/- Contracts of math's and surdlaw0's small functions: what each call answers, for any words; the world is as it was but for draws. -/
import Derived.Test.YtmfmgofafamemaaDoorProg
import Derived.Test.YtmfmgofafamemaaDoorFlBits
import Derived.Lib.Hide
namespace Go.Proofs.YtmfmgofafamemaaDoor
open Fl
theorem f64bits_run (x : Nat) (w : World) : (callFunc 24 #[.float .f64 x]).run Tryd.prog w = .ok (.value (.int .u64 x)) w := by
  rw [run_callFunc_extern (e := Extern.MathFloatBits.float64bits) Tryd.func24 (by kernel_rfl) (by kernel_rfl) (by kernel_rfl) (by kernel_rfl)]
  rfl
theorem frombits_run (n : Int) (w : World) : (callFunc 21 #[.int .u64 n]).run Tryd.prog w = .ok (.value (.float .f64 n.toNat)) w := by
  rw [run_callFunc_extern (e := Extern.MathFloatBits.float64frombits) Tryd.func21 (by kernel_rfl) (by kernel_rfl) (by kernel_rfl) (by kernel_rfl)]
  rfl

/-- 'math.Abs' -/
theorem abs_any (x : Nat) (hx : x < 2 ^ 64) (w : World) :
    Calls Tryd.prog 18 #[.float .f64 x] w fun e w' => e = .returned (.float .f64 (rg x)) ∧ w = w' := by
  have h1 := f64bits_run
  have h2 := frombits_run
  have hb := bits_size x hx
  have H := Lib.hid hx; clear hx
  go_enter Tryd.func18, Tryd.ntmps18
  go_wp2
  go_ret
  exact ⟨rfl, rfl⟩

theorem order_nan_same (x y : Nat) : sameB x y = (if FloatKind.f64.format.order x x = some .eq then ((x : Int) == (y : Int)) else if FloatKind.f64.format.order y y = some .eq then ((x : Int) == (y : Int)) else true) := by
  have a := order_self x
  have b := order_self y
  have e : FloatKind.f64.format = D := rfl
  have c : ((x : Int) == (y : Int)) = decide (x = y) := by
    by_cases h : x = y
    · subst h; simp
    · rw [decide_eq_false h]; simp; omega
  rw [e, c]
  unfold sameB Same
  by_cases hx : isNan x
  · rw [if_neg (by rw [a]; exact not_not_intro hx)]
    by_cases hy : isNan y
    · rw [if_neg (by rw [b]; exact not_not_intro hy)]; simp [hx, hy]
    · rw [if_pos (by rw [b]; exact hy)]; simp [hx, hy]
  · rw [if_pos (by rw [a]; exact hx)]; simp [hx]

/-- 'surdlaw0.SameF' -/
theorem sameF_any (x y : Nat) (w : World) :
    Calls Tryd.prog 13 #[.float .f64 x, .float .f64 y] w fun e w' => e = .returned (.bool (sameB x y)) ∧ w = w' := by
  have h1 := f64bits_run
  have hs := order_nan_same x y
  have H := Lib.hid hs; clear hs
  go_enter Tryd.func13, Tryd.ntmps13
  go_wp2
  all_goals (go_ret; rw [H.out]; simp [*])

/-- 'surdlaw0.F' -/
theorem f_any (a : Int) (w : World) :
    Calls Tryd.prog 7 #[.int .u64 a] w fun e w' => e = .returned (.float .f64 a.toNat) ∧ w = w' := by
  have h2 := frombits_run
  go_enter Tryd.func7, Tryd.ntmps7
  go_wp2
  go_ret
  exact ⟨rfl, rfl⟩
theorem num_any (a : Int) (w : World) :
    Calls Tryd.prog 27 #[.int .i64 a] w fun e w' => e = .returned (.int .i64 a) ∧ w = w' := by
  go_enter Tryd.func27, Tryd.ntmps27
  go_wp2
  go_ret
  exact ⟨rfl, rfl⟩

end Go.Proofs.YtmfmgofafamemaaDoor
