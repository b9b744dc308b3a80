/- Contracts of cpx.Class, Same, Equal, Scale, Size, and of surdlaw5.like: what each answers. -/
import Derived.Test.YtmfmgofafamemaaIeee
namespace Go.Proofs.Ytmfmgofafamemaa
open Fl

theorem csame_any (a b c d : Nat) (ha : a < 2 ^ 64) (hb : b < 2 ^ 64) (hc : c < 2 ^ 64) (hd : d < 2 ^ 64) (w : World) :
    Calls Try.prog 41 #[.complex .f64 a b, .complex .f64 c d] w fun e w' => e = .returned (.bool (sameCB a b c d)) ∧ w = w' := by
  unfold sameCB
  have Ha := Lib.hid ha; have Hb := Lib.hid hb; have Hc := Lib.hid hc; have Hd := Lib.hid hd; clear ha hb hc hd
  cases h1 : sameB a c
  all_goals
    go_enter Try.func41, Try.ntmps41
    go_wp2_with (go_at_call 56; refine (same_any _ _ (by first | exact Ha.out | exact Hb.out) (by first | exact Hc.out | exact Hd.out) _).mono ?_; rintro e w' ⟨rfl, rfl⟩)
    go_ret
    simp [*]
theorem cequal_any (a b c d : Nat) (w : World) :
    Calls Try.prog 42 #[.complex .f64 a b, .complex .f64 c d] w fun e w' => e = .returned (.bool (eqB a c && eqB b d)) ∧ w = w' := by
  unfold eqB
  cases h1 : (FloatKind.f64.format.order a c == some Ordering.eq)
  all_goals
    go_enter Try.func42, Try.ntmps42
    go_wp2
    go_ret
    simp
theorem times_any (x y : Nat) (w : World) :
    Calls Try.prog 55 #[.float .f64 x, .float .f64 y] w fun e w' => ∃ r n, FMul x y r ∧ e = .returned (.float .f64 r) ∧ w' = w.drewN n := by
  go_enter Try.func55, Try.ntmps55
  go_wp2
  go_ret
  exact ⟨_, _, fop_mul .., rfl, rfl⟩
theorem scale_any (a b x : Nat) (w : World) :
    Calls Try.prog 40 #[.complex .f64 a b, .float .f64 x] w (CRet (fun p q => FMul a x p ∧ FMul b x q) w) := by
  go_enter Try.func40, Try.ntmps40
  go_wp2_with fail
  refine (times_any _ _ _).mono ?_; rintro e w1 ⟨p, n1, hp, rfl, rfl⟩
  go_wp2_with fail
  refine (times_any _ _ _).mono ?_; rintro e w1 ⟨q, n2, hq, rfl, rfl⟩
  go_wp2_with fail
  go_ret
  exact CRet.mk _ ⟨hp, hq⟩
theorem csize_any (a b : Nat) (ha : a < 2 ^ 64) (hb : b < 2 ^ 64) (w : World) :
    Calls Try.prog 27 #[.complex .f64 a b] w fun e w' => e = .returned (.float .f64 (fmax (rg a) (rg b))) ∧ w = w' := by
  have la : rg a < 2 ^ 64 := Nat.lt_of_lt_of_le (rg_lt a) (by decide)
  have lb : rg b < 2 ^ 64 := Nat.lt_of_lt_of_le (rg_lt b) (by decide)
  have Ha := Lib.hid ha; have Hb := Lib.hid hb; have La := Lib.hid la; have Lb := Lib.hid lb; clear ha hb la lb
  go_enter Try.func27, Try.ntmps27
  go_wp2_with (first | (go_at_call 12; refine (abs_any _ (by first | exact Ha.out | exact Hb.out) _).mono ?_; rintro e w' ⟨rfl, rfl⟩) | (go_at_call 46; refine (max_any _ _ La.out Lb.out _).mono ?_; rintro e w' ⟨rfl, rfl⟩))
  go_ret
  exact ⟨rfl, rfl⟩
theorem cclass_any (a b : Nat) (ha : a < 2 ^ 64) (hb : b < 2 ^ 64) (w : World) :
    Calls Try.prog 26 #[.complex .f64 a b] w fun e w' => e = .returned (.int .i64 (clsC a b)) ∧ w = w' := by
  have c : clsC a b = (if (clsF a == 2 || clsF b == 2) = true then 2 else if (clsF a == 1 || clsF b == 1) = true then 1 else if (clsF a == 3 && clsF b == 3) = true then 3 else 4) := rfl
  have Ha := Lib.hid ha; have Hb := Lib.hid hb; have C := Lib.hid c; clear ha hb c
  go_enter Try.func26, Try.ntmps26
  go_wp2_with (go_at_call 45; refine (class_any _ (by first | exact Ha.out | exact Hb.out) _).mono ?_; rintro e w' ⟨rfl, rfl⟩)
  all_goals
    go_ret
    refine ⟨ret_int ?_, rfl⟩
    rw [C.out]
    clear C
    simp only [beq_iff_eq, beq_eq_false_iff_ne, ne_eq, Bool.or_eq_true, Bool.and_eq_true] at *
    generalize clsF a = p at *
    generalize clsF b = q at *
    repeat' split
    all_goals omega
end Go.Proofs.Ytmfmgofafamemaa
