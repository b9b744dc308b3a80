/- Contracts of math's small functions on floats: IsInf, IsNaN, normalize. -/
import Derived.Test.YtmfmgofafamemaaCpx
import Derived.Test.YtmfmgofafamemaaFlPl
namespace Go.Proofs.Ytmfmgofafamemaa
open Fl
theorem unary_neg (x : Nat) (hx : x < 2 ^ 64) (w : World) : (Op.unary .neg (.float .f64 x)).run Try.prog w = .ok (.float .f64 (neg x)) w := by
  rw [← negFloat_eq x hx]; rfl
theorem rg_lt' (x : Nat) : rg x < 2 ^ 64 := Nat.lt_trans (rg_lt x) (by decide)
/-- math.IsInf -/
theorem isInf0_any (x : Nat) (hx : x < 2 ^ 64) (w : World) :
    Calls Try.prog 49 #[.float .f64 x, .int .i64 0] w fun e w' => e = .returned (.bool (decide (rg x = INF))) ∧ w = w' := by
  have G := Lib.hid (gt_max (rg_lt' x))
  have H := Lib.hid hx; clear hx
  go_enter Try.func49, Try.ntmps49
  go_wp2_with (go_at_call 12; refine (abs_any _ H.out _).mono ?_; rintro e w' ⟨rfl, rfl⟩)
  go_ret
  exact ⟨ret_bool G.out, rfl⟩
theorem isNaN_any (x : Nat) (w : World) :
    Calls Try.prog 51 #[.float .f64 x] w fun e w' => e = .returned (.bool (decide (isNan x))) ∧ w = w' := by
  have e : (FloatKind.f64.format.order x x == some Ordering.eq) = decide (¬ isNan x) := beq_dec (order_self x)
  have E := Lib.hid e; clear e
  go_enter Try.func51, Try.ntmps51
  go_wp2
  go_ret
  exact ⟨ret_bool (by unfold bne; rw [E.out]; by_cases h : isNan x <;> simp [h]), rfl⟩
/-- math.normalize of a normal number -/
theorem normalize_norm (x : Nat) (hx : x < 2 ^ 64) (hf : rg x < INF) (hn : 2 ^ 52 ≤ rg x) (w : World) :
    Calls Try.prog 52 #[.float .f64 x] w fun e w' => e = .returned (.tuple #[.float .f64 x, .int .i64 0]) ∧ w = w' := by
  have e : (FloatKind.f64.format.order (rg x) 4503599627370496 == some Ordering.lt) = false := by
    have rr : rg (rg x) = rg x := Nat.mod_eq_of_lt (rg_lt x)
    have sr : sg (rg x) = false := by unfold sg; rw [Nat.div_eq_of_lt (rg_lt x)]; rfl
    rw [lt_small (by unfold isNan; rw [rr]; omega) sr, rr]
    exact decide_eq_false (by omega)
  have H := Lib.hid hx; clear hx hf hn
  go_enter Try.func52, Try.ntmps52
  go_wp2_with (go_at_call 12; refine (abs_any _ H.out _).mono ?_; rintro e w' ⟨rfl, rfl⟩)
  go_ret2
  exact ⟨rfl, rfl⟩
end Go.Proofs.Ytmfmgofafamemaa
