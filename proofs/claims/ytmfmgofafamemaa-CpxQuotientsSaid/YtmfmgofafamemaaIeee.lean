/- Contracts of package ieee's functions that look at one word or two: what each answers; the world is as it was. -/
import Derived.Test.YtmfmgofafamemaaCpx
import Derived.Test.YtmfmgofafamemaaFlList
namespace Go.Proofs.Ytmfmgofafamemaa
open Fl

theorem size_any (x : Nat) (hx : x < 2 ^ 64) (w : World) :
    Calls Try.prog 57 #[.float .f64 x] w fun e w' => e = .returned (.int .u64 (rg x)) ∧ w = w' := by
  have h1 := f64bits_run
  have hb := bits_size x hx
  have H := Lib.hid hx; clear hx
  go_enter Try.func57, Try.ntmps57
  go_wp2
  go_ret
  exact ⟨rfl, rfl⟩
theorem none_any (x : Nat) (hx : x < 2 ^ 64) (w : World) :
    Calls Try.prog 58 #[.float .f64 x] w fun e w' => e = .returned (.bool (decide (isNan x))) ∧ w = w' := by
  have H := Lib.hid hx; clear hx
  go_enter Try.func58, Try.ntmps58
  go_wp2_with (go_at_call 57; refine (size_any _ H.out _).mono ?_; rintro e w' ⟨rfl, rfl⟩)
  go_ret
  exact ⟨ret_bool (nan_test x), rfl⟩
theorem none_no (x : Nat) (hx : x < 2 ^ 64) (hn : ¬ isNan x) (w : World) :
    Calls Try.prog 58 #[.float .f64 x] w fun e w' => e = .returned (.bool false) ∧ w = w' := by
  refine (none_any x hx w).mono ?_
  rintro e w' ⟨rfl, rfl⟩
  exact ⟨by rw [decide_eq_false hn], rfl⟩
theorem none_yes (x : Nat) (hx : x < 2 ^ 64) (hn : isNan x) (w : World) :
    Calls Try.prog 58 #[.float .f64 x] w fun e w' => e = .returned (.bool true) ∧ w = w' := by
  refine (none_any x hx w).mono ?_
  rintro e w' ⟨rfl, rfl⟩
  exact ⟨by rw [decide_eq_true hn], rfl⟩
theorem place_any (x : Nat) (hx : x < 2 ^ 64) (hn : ¬ isNan x) (w : World) :
    Calls Try.prog 60 #[.float .f64 x] w fun e w' => e = .returned (.int .i64 (pl x)) ∧ w = w' := by
  have h1 := f64bits_run
  have hb := bits_size x hx
  have hs := sign_test x hx
  have H := Lib.hid hx; have Hn := Lib.hid hn; clear hx hn
  cases hg : sg x
  all_goals
    rw [hg] at hs
    have G := Lib.hid hg; clear hg
    go_enter Try.func60, Try.ntmps60
    go_wp2_with (go_at_call 58; refine (none_no _ H.out Hn.out _).mono ?_; rintro e w' ⟨rfl, rfl⟩)
    go_ret
  · exact ⟨ret_int (place_pos x H.out G.out), rfl⟩
  · exact ⟨ret_int (place_neg x G.out), rfl⟩
theorem place_nan (x : Nat) (hx : x < 2 ^ 64) (hn : isNan x) (w : World) :
    Calls Try.prog 60 #[.float .f64 x] w fun e w' => e = .returned (.int .i64 9223372036854775807) ∧ w = w' := by
  have H := Lib.hid hx; have Hn := Lib.hid hn; clear hx hn
  go_enter Try.func60, Try.ntmps60
  go_wp2_with (go_at_call 58; refine (none_yes _ H.out Hn.out _).mono ?_; rintro e w' ⟨rfl, rfl⟩)
  go_ret
  exact ⟨rfl, rfl⟩
theorem at_any (x : Nat) (hx : x < 2 ^ 64) (w : World) :
    Calls Try.prog 59 #[.int .i64 (pl x)] w fun e w' => e = .returned (.float .f64 x) ∧ w = w' := by
  have h1 := frombits_run
  have hp := pl_neg x
  cases hg : sg x
  · have hp2 : ¬ pl x < 0 := by rw [hp, hg]; decide
    have e := at_pos x hx hg
    have E := Lib.hid e; clear e hp hg hx
    generalize pl x = p at *
    go_enter Try.func59, Try.ntmps59
    go_wp2
    go_ret
    exact ⟨ret_float E.out, rfl⟩
  · have hp2 : pl x < 0 := by rw [hp, hg]
    have e := at_neg x hx hg
    have E := Lib.hid e; clear e hp hg hx
    generalize pl x = p at *
    go_enter Try.func59, Try.ntmps59
    go_wp2
    go_ret
    exact ⟨ret_float E.out, rfl⟩
theorem max_any (x y : Nat) (hx : x < 2 ^ 64) (hy : y < 2 ^ 64) (w : World) :
    Calls Try.prog 46 #[.float .f64 x, .float .f64 y] w fun e w' => e = .returned (.float .f64 (fmax x y)) ∧ w = w' := by
  have h2 := frombits_run
  by_cases nx : isNan x
  · have e : fmax x y = NANQ := by unfold fmax; rw [if_pos (.inl nx)]
    rw [e]
    have H := Lib.hid hx; have Hn := Lib.hid nx; clear hx nx e hy
    go_enter Try.func46, Try.ntmps46
    go_wp2_with (go_at_call 58; refine (none_yes _ H.out Hn.out _).mono ?_; rintro e w' ⟨rfl, rfl⟩)
    go_ret
    exact ⟨rfl, rfl⟩
  · by_cases ny : isNan y
    · have e : fmax x y = NANQ := by unfold fmax; rw [if_pos (.inr ny)]
      rw [e]
      have H := Lib.hid hx; have Hn := Lib.hid nx; have H' := Lib.hid hy; have Hn' := Lib.hid ny; clear hx nx e hy ny
      go_enter Try.func46, Try.ntmps46
      go_wp2_with (first | (go_at_call 58; (with_reducible refine (none_no _ H.out Hn.out _).mono ?_); rintro e w' ⟨rfl, rfl⟩) | (go_at_call 58; (with_reducible refine (none_yes _ H'.out Hn'.out _).mono ?_); rintro e w' ⟨rfl, rfl⟩))
      go_ret
      exact ⟨rfl, rfl⟩
    · have f1 := fmax_r nx ny
      have f2 := fmax_l hx hy nx ny
      have H := Lib.hid hx; have Hn := Lib.hid nx; have H' := Lib.hid hy; have Hn' := Lib.hid ny; have F1 := Lib.hid f1; have F2 := Lib.hid f2; clear hx nx hy ny f1 f2
      go_enter Try.func46, Try.ntmps46
      go_wp2_with (first | (go_at_call 58; (with_reducible refine (none_no _ H.out Hn.out _).mono ?_); rintro e w' ⟨rfl, rfl⟩) | (go_at_call 58; (with_reducible refine (none_no _ H'.out Hn'.out _).mono ?_); rintro e w' ⟨rfl, rfl⟩) | (go_at_call 60; (with_reducible refine (place_any _ H.out Hn.out _).mono ?_); rintro e w' ⟨rfl, rfl⟩) | (go_at_call 60; (with_reducible refine (place_any _ H'.out Hn'.out _).mono ?_); rintro e w' ⟨rfl, rfl⟩) | (go_at_call 59; (with_reducible refine (at_any _ H.out _).mono ?_); rintro e w' ⟨rfl, rfl⟩) | (go_at_call 59; (with_reducible refine (at_any _ H'.out _).mono ?_); rintro e w' ⟨rfl, rfl⟩))
      · go_ret
        exact ⟨ret_float (F1.out (by omega)).symm, rfl⟩
      · go_ret
        exact ⟨ret_float (F2.out (by omega)).symm, rfl⟩
/-- ieee.Class -/
theorem class_any (x : Nat) (hx : x < 2 ^ 64) (w : World) :
    Calls Try.prog 45 #[.float .f64 x] w fun e w' => e = .returned (.int .i64 (clsF x)) ∧ w = w' := by
  have c := clsF_cases x
  have H := Lib.hid hx; have C := Lib.hid c; clear hx c
  go_enter Try.func45, Try.ntmps45
  go_wp2_with (go_at_call 57; refine (size_any _ H.out _).mono ?_; rintro e w' ⟨rfl, rfl⟩)
  all_goals
    go_ret
    refine ⟨ret_int ?_, rfl⟩
    rw [C.out]
    clear C
    (try simp only [beq_iff_eq, beq_eq_false_iff_ne, ne_eq] at *)
    repeat' split
    all_goals omega
/-- ieee.Same -/
theorem same_any (x y : Nat) (hx : x < 2 ^ 64) (hy : y < 2 ^ 64) (w : World) :
    Calls Try.prog 56 #[.float .f64 x, .float .f64 y] w fun e w' => e = .returned (.bool (sameB x y)) ∧ w = w' := by
  have h1 := f64bits_run
  have c := sameB_eq x y
  have H := Lib.hid hx; have H' := Lib.hid hy; have C := Lib.hid c; clear hx hy c
  by_cases nx : isNan x <;> by_cases ny : isNan y
  all_goals
    have Hn := Lib.hid nx; have Hn' := Lib.hid ny; clear nx ny
    go_enter Try.func56, Try.ntmps56
    go_wp2_with (first | (go_at_call 58; (with_reducible refine (none_no _ H.out Hn.out _).mono ?_); rintro e w' ⟨rfl, rfl⟩) | (go_at_call 58; (with_reducible refine (none_yes _ H.out Hn.out _).mono ?_); rintro e w' ⟨rfl, rfl⟩) | (go_at_call 58; (with_reducible refine (none_no _ H'.out Hn'.out _).mono ?_); rintro e w' ⟨rfl, rfl⟩) | (go_at_call 58; (with_reducible refine (none_yes _ H'.out Hn'.out _).mono ?_); rintro e w' ⟨rfl, rfl⟩))
    go_ret
    exact ⟨ret_bool (by rw [C.out]; simp [Hn.out, Hn'.out]), rfl⟩
end Go.Proofs.Ytmfmgofafamemaa
