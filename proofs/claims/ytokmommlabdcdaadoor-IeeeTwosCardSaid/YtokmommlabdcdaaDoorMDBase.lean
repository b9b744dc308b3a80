/- Contracts of math's and surdlaw0's small functions: what each call answers, for any words; the world is as it was but for draws. Contracts of package ieee's functions that look at one word or two: what each answers; the world is as it was. Contracts of package ieee's functions on the row of all floats: Order, Next, Prev, Min; the world is as it was. Contracts of ieee.Ulp, math.IsInf, math.Signbit, math.Frexp. -/
import Derived.Test.YtokmommlabdcdaaDoorProg
import Derived.Test.YtokmommlabdcdaaDoorMFlRel
import Derived.Lib.Hide
set_option linter.unusedVariables false
set_option linter.unusedSimpArgs false
namespace Go.Proofs.YtokmommlabdcdaaDoor
open Fl
theorem f64bits_run (x : Nat) (w : World) : (callFunc 23 #[.float .f64 x]).run Tryd.prog w = .ok (.value (.int .u64 x)) w := by
  rw [run_callFunc_extern (e := Extern.MathFloatBits.float64bits) Tryd.func23 (by kernel_rfl) (by kernel_rfl) (by kernel_rfl) (by kernel_rfl)]
  rfl
theorem frombits_run (n : Int) (w : World) : (callFunc 21 #[.int .u64 n]).run Tryd.prog w = .ok (.value (.float .f64 n.toNat)) w := by
  rw [run_callFunc_extern (e := Extern.MathFloatBits.float64frombits) Tryd.func21 (by kernel_rfl) (by kernel_rfl) (by kernel_rfl) (by kernel_rfl)]
  rfl

/-- 'math.Abs' -/
theorem abs_any (x : Nat) (hx : x < 2 ^ 64) (w : World) :
    Calls Tryd.prog 36 #[.float .f64 x] w fun e w' => e = .returned (.float .f64 (rg x)) ∧ w = w' := by
  have h1 := f64bits_run
  have h2 := frombits_run
  have hb := bits_size x hx
  have H := Lib.hid hx; clear hx
  go_enter Tryd.func36, Tryd.ntmps36
  go_wp2
  go_ret
  exact ⟨rfl, rfl⟩

theorem order_nan_same (x y : Nat) : sameB x y = (if FloatKind.f64.format.order x x = some .eq then ((x : Int) == (y : Int)) else if FloatKind.f64.format.order y y = some .eq then ((x : Int) == (y : Int)) else true) := by
  have a := order_self x
  have b := order_self y
  have e : FloatKind.f64.format = D := rfl
  have c : ((x : Int) == (y : Int)) = decide (x = y) := by
    by_cases h : x = y
    · subst h; simp
    · rw [decide_eq_false h]; simp; omega
  rw [e, c]
  unfold sameB Same
  by_cases hx : isNan x
  · rw [if_neg (by rw [a]; exact not_not_intro hx)]
    by_cases hy : isNan y
    · rw [if_neg (by rw [b]; exact not_not_intro hy)]; simp [hx, hy]
    · rw [if_pos (by rw [b]; exact hy)]; simp [hx, hy]
  · rw [if_pos (by rw [a]; exact hx)]; simp [hx]

/-- 'surdlaw0.SameF' -/
theorem sameF_any (x y : Nat) (w : World) :
    Calls Tryd.prog 10 #[.float .f64 x, .float .f64 y] w fun e w' => e = .returned (.bool (sameB x y)) ∧ w = w' := by
  have h1 := f64bits_run
  have hs := order_nan_same x y
  have H := Lib.hid hs; clear hs
  go_enter Tryd.func10, Tryd.ntmps10
  go_wp2
  all_goals (go_ret; rw [H.out]; simp [*])

/-- 'surdlaw0.F' -/
theorem f_any (a : Int) (w : World) :
    Calls Tryd.prog 5 #[.int .u64 a] w fun e w' => e = .returned (.float .f64 a.toNat) ∧ w = w' := by
  have h2 := frombits_run
  go_enter Tryd.func5, Tryd.ntmps5
  go_wp2
  go_ret
  exact ⟨rfl, rfl⟩
theorem num_any (a : Int) (w : World) :
    Calls Tryd.prog 20 #[.int .i64 a] w fun e w' => e = .returned (.int .i64 a) ∧ w = w' := by
  go_enter Tryd.func20, Tryd.ntmps20
  go_wp2
  go_ret
  exact ⟨rfl, rfl⟩

end Go.Proofs.YtokmommlabdcdaaDoor
namespace Go.Proofs.YtokmommlabdcdaaDoor
open Fl

theorem size_any (x : Nat) (hx : x < 2 ^ 64) (w : World) :
    Calls Tryd.prog 31 #[.float .f64 x] w fun e w' => e = .returned (.int .u64 (rg x)) ∧ w = w' := by
  have h1 := f64bits_run
  have hb := bits_size x hx
  have H := Lib.hid hx; clear hx
  go_enter Tryd.func31, Tryd.ntmps31
  go_wp2
  go_ret
  exact ⟨rfl, rfl⟩
theorem none_any (x : Nat) (hx : x < 2 ^ 64) (w : World) :
    Calls Tryd.prog 22 #[.float .f64 x] w fun e w' => e = .returned (.bool (decide (isNan x))) ∧ w = w' := by
  have H := Lib.hid hx; clear hx
  go_enter Tryd.func22, Tryd.ntmps22
  go_wp2_with (go_at_call 31; refine (size_any _ H.out _).mono ?_; rintro e w' ⟨rfl, rfl⟩)
  go_ret
  exact ⟨ret_bool (nan_test x), rfl⟩
theorem none_no (x : Nat) (hx : x < 2 ^ 64) (hn : ¬ isNan x) (w : World) :
    Calls Tryd.prog 22 #[.float .f64 x] w fun e w' => e = .returned (.bool false) ∧ w = w' := by
  refine (none_any x hx w).mono ?_
  rintro e w' ⟨rfl, rfl⟩
  exact ⟨by rw [decide_eq_false hn], rfl⟩
theorem none_yes (x : Nat) (hx : x < 2 ^ 64) (hn : isNan x) (w : World) :
    Calls Tryd.prog 22 #[.float .f64 x] w fun e w' => e = .returned (.bool true) ∧ w = w' := by
  refine (none_any x hx w).mono ?_
  rintro e w' ⟨rfl, rfl⟩
  exact ⟨by rw [decide_eq_true hn], rfl⟩
theorem ieplace_any (x : Nat) (hx : x < 2 ^ 64) (hn : ¬ isNan x) (w : World) :
    Calls Tryd.prog 26 #[.float .f64 x] w fun e w' => e = .returned (.int .i64 (pl x)) ∧ w = w' := by
  have h1 := f64bits_run
  have hb := bits_size x hx
  have hs := sign_test x hx
  have H := Lib.hid hx; have Hn := Lib.hid hn; clear hx hn
  cases hg : sg x
  all_goals
    rw [hg] at hs
    have G := Lib.hid hg; clear hg
    go_enter Tryd.func26, Tryd.ntmps26
    go_wp2_with (go_at_call 22; refine (none_no _ H.out Hn.out _).mono ?_; rintro e w' ⟨rfl, rfl⟩)
    go_ret
  · exact ⟨ret_int (place_pos x H.out G.out), rfl⟩
  · exact ⟨ret_int (place_neg x G.out), rfl⟩
theorem place_nan (x : Nat) (hx : x < 2 ^ 64) (hn : isNan x) (w : World) :
    Calls Tryd.prog 26 #[.float .f64 x] w fun e w' => e = .returned (.int .i64 9223372036854775807) ∧ w = w' := by
  have H := Lib.hid hx; have Hn := Lib.hid hn; clear hx hn
  go_enter Tryd.func26, Tryd.ntmps26
  go_wp2_with (go_at_call 22; refine (none_yes _ H.out Hn.out _).mono ?_; rintro e w' ⟨rfl, rfl⟩)
  go_ret
  exact ⟨rfl, rfl⟩
theorem at_any (x : Nat) (hx : x < 2 ^ 64) (w : World) :
    Calls Tryd.prog 29 #[.int .i64 (pl x)] w fun e w' => e = .returned (.float .f64 x) ∧ w = w' := by
  have h1 := frombits_run
  have hp := pl_neg x
  cases hg : sg x
  · have hp2 : ¬ pl x < 0 := by rw [hp, hg]; decide
    have e := at_pos x hx hg
    have E := Lib.hid e; clear e hp hg hx
    generalize pl x = p at *
    go_enter Tryd.func29, Tryd.ntmps29
    go_wp2
    go_ret
    exact ⟨ret_float E.out, rfl⟩
  · have hp2 : pl x < 0 := by rw [hp, hg]
    have e := at_neg x hx hg
    have E := Lib.hid e; clear e hp hg hx
    generalize pl x = p at *
    go_enter Tryd.func29, Tryd.ntmps29
    go_wp2
    go_ret
    exact ⟨ret_float E.out, rfl⟩
theorem max_any (x y : Nat) (hx : x < 2 ^ 64) (hy : y < 2 ^ 64) (w : World) :
    Calls Tryd.prog 13 #[.float .f64 x, .float .f64 y] w fun e w' => e = .returned (.float .f64 (fmax x y)) ∧ w = w' := by
  have h2 := frombits_run
  by_cases nx : isNan x
  · have e : fmax x y = NANQ := by unfold fmax; rw [if_pos (.inl nx)]
    rw [e]
    have H := Lib.hid hx; have Hn := Lib.hid nx; clear hx nx e hy
    go_enter Tryd.func13, Tryd.ntmps13
    go_wp2_with (go_at_call 22; refine (none_yes _ H.out Hn.out _).mono ?_; rintro e w' ⟨rfl, rfl⟩)
    go_ret
    exact ⟨rfl, rfl⟩
  · by_cases ny : isNan y
    · have e : fmax x y = NANQ := by unfold fmax; rw [if_pos (.inr ny)]
      rw [e]
      have H := Lib.hid hx; have Hn := Lib.hid nx; have H' := Lib.hid hy; have Hn' := Lib.hid ny; clear hx nx e hy ny
      go_enter Tryd.func13, Tryd.ntmps13
      go_wp2_with (first | (go_at_call 22; (with_reducible refine (none_no _ H.out Hn.out _).mono ?_); rintro e w' ⟨rfl, rfl⟩) | (go_at_call 22; (with_reducible refine (none_yes _ H'.out Hn'.out _).mono ?_); rintro e w' ⟨rfl, rfl⟩))
      go_ret
      exact ⟨rfl, rfl⟩
    · have f1 := fmax_r nx ny
      have f2 := fmax_l hx hy nx ny
      have H := Lib.hid hx; have Hn := Lib.hid nx; have H' := Lib.hid hy; have Hn' := Lib.hid ny; have F1 := Lib.hid f1; have F2 := Lib.hid f2; clear hx nx hy ny f1 f2
      go_enter Tryd.func13, Tryd.ntmps13
      go_wp2_with (first | (go_at_call 22; (with_reducible refine (none_no _ H.out Hn.out _).mono ?_); rintro e w' ⟨rfl, rfl⟩) | (go_at_call 22; (with_reducible refine (none_no _ H'.out Hn'.out _).mono ?_); rintro e w' ⟨rfl, rfl⟩) | (go_at_call 26; (with_reducible refine (ieplace_any _ H.out Hn.out _).mono ?_); rintro e w' ⟨rfl, rfl⟩) | (go_at_call 26; (with_reducible refine (ieplace_any _ H'.out Hn'.out _).mono ?_); rintro e w' ⟨rfl, rfl⟩) | (go_at_call 29; (with_reducible refine (at_any _ H.out _).mono ?_); rintro e w' ⟨rfl, rfl⟩) | (go_at_call 29; (with_reducible refine (at_any _ H'.out _).mono ?_); rintro e w' ⟨rfl, rfl⟩))
      · go_ret
        exact ⟨ret_float (F1.out (by omega)).symm, rfl⟩
      · go_ret
        exact ⟨ret_float (F2.out (by omega)).symm, rfl⟩
/-- ieee.Class -/
theorem class_any (x : Nat) (hx : x < 2 ^ 64) (w : World) :
    Calls Tryd.prog 19 #[.float .f64 x] w fun e w' => e = .returned (.int .i64 (clsF x)) ∧ w = w' := by
  have c := clsF_cases x
  have H := Lib.hid hx; have C := Lib.hid c; clear hx c
  go_enter Tryd.func19, Tryd.ntmps19
  go_wp2_with (go_at_call 31; refine (size_any _ H.out _).mono ?_; rintro e w' ⟨rfl, rfl⟩)
  all_goals
    go_ret
    refine ⟨ret_int ?_, rfl⟩
    rw [C.out]
    clear C
    (try simp only [beq_iff_eq, beq_eq_false_iff_ne, ne_eq] at *)
    repeat' split
    all_goals omega
/-- ieee.Same -/
theorem same_any (x y : Nat) (hx : x < 2 ^ 64) (hy : y < 2 ^ 64) (w : World) :
    Calls Tryd.prog 6 #[.float .f64 x, .float .f64 y] w fun e w' => e = .returned (.bool (sameB x y)) ∧ w = w' := by
  have h1 := f64bits_run
  have c := sameB_eq x y
  have H := Lib.hid hx; have H' := Lib.hid hy; have C := Lib.hid c; clear hx hy c
  by_cases nx : isNan x <;> by_cases ny : isNan y
  all_goals
    have Hn := Lib.hid nx; have Hn' := Lib.hid ny; clear nx ny
    go_enter Tryd.func6, Tryd.ntmps6
    go_wp2_with (first | (go_at_call 22; (with_reducible refine (none_no _ H.out Hn.out _).mono ?_); rintro e w' ⟨rfl, rfl⟩) | (go_at_call 22; (with_reducible refine (none_yes _ H.out Hn.out _).mono ?_); rintro e w' ⟨rfl, rfl⟩) | (go_at_call 22; (with_reducible refine (none_no _ H'.out Hn'.out _).mono ?_); rintro e w' ⟨rfl, rfl⟩) | (go_at_call 22; (with_reducible refine (none_yes _ H'.out Hn'.out _).mono ?_); rintro e w' ⟨rfl, rfl⟩))
    go_ret
    exact ⟨ret_bool (by rw [C.out]; simp [Hn.out, Hn'.out]), rfl⟩
end Go.Proofs.YtokmommlabdcdaaDoor
namespace Go.Proofs.YtokmommlabdcdaaDoor
open Fl
theorem placeT_any (x : Nat) (hx : x < 2 ^ 64) (w : World) :
    Calls Tryd.prog 26 #[.float .f64 x] w fun e w' => e = .returned (.int .i64 (plT x)) ∧ w = w' := by
  by_cases h : isNan x
  · rw [plT_nan h]; exact place_nan x hx h w
  · rw [plT_num h]; exact ieplace_any x hx h w
/-- ieee.Order -/
theorem order_any (x y : Nat) (hx : x < 2 ^ 64) (hy : y < 2 ^ 64) (w : World) :
    Calls Tryd.prog 8 #[.float .f64 x, .float .f64 y] w fun e w' => e = .returned (.int .i64 (ordI x y)) ∧ w = w' := by
  have H := Lib.hid hx; have H' := Lib.hid hy; clear hx hy
  by_cases c : plT x < plT y
  · have e : ordI x y = -1 := by unfold ordI; rw [if_pos c]
    rw [e]; clear e
    go_enter Tryd.func8, Tryd.ntmps8
    go_wp2_with (first | (go_at_call 26; (with_reducible refine (placeT_any _ H.out _).mono ?_); rintro e w' ⟨rfl, rfl⟩) | (go_at_call 26; (with_reducible refine (placeT_any _ H'.out _).mono ?_); rintro e w' ⟨rfl, rfl⟩))
    go_ret
    exact ⟨rfl, rfl⟩
  · by_cases d : plT y < plT x
    · have e : ordI x y = 1 := by unfold ordI; rw [if_neg c, if_pos d]
      rw [e]; clear e
      go_enter Tryd.func8, Tryd.ntmps8
      go_wp2_with (first | (go_at_call 26; (with_reducible refine (placeT_any _ H.out _).mono ?_); rintro e w' ⟨rfl, rfl⟩) | (go_at_call 26; (with_reducible refine (placeT_any _ H'.out _).mono ?_); rintro e w' ⟨rfl, rfl⟩))
      go_ret
      exact ⟨rfl, rfl⟩
    · have e : ordI x y = 0 := by unfold ordI; rw [if_neg c, if_neg d]
      rw [e]; clear e
      go_enter Tryd.func8, Tryd.ntmps8
      go_wp2_with (first | (go_at_call 26; (with_reducible refine (placeT_any _ H.out _).mono ?_); rintro e w' ⟨rfl, rfl⟩) | (go_at_call 26; (with_reducible refine (placeT_any _ H'.out _).mono ?_); rintro e w' ⟨rfl, rfl⟩))
      go_ret
      exact ⟨rfl, rfl⟩
theorem at_eq (x : Nat) (p : Int) (hx : x < 2 ^ 64) (hp : p = pl x) (w : World) :
    Calls Tryd.prog 29 #[.int .i64 p] w fun e w' => e = .returned (.float .f64 x) ∧ w = w' := by
  subst hp; exact at_any x hx w
/-- ieee.Next -/
theorem next_any (x : Nat) (hx : x < 2 ^ 64) (w : World) :
    Calls Tryd.prog 16 #[.float .f64 x] w fun e w' => e = .returned (.float .f64 (nxt x)) ∧ w = w' := by
  by_cases nx : isNan x
  · rw [nxt_nan nx]
    have H := Lib.hid hx; have Hn := Lib.hid nx; clear hx nx
    go_enter Tryd.func16, Tryd.ntmps16
    go_wp2_with (go_at_call 22; refine (none_yes _ H.out Hn.out _).mono ?_; rintro e w' ⟨rfl, rfl⟩)
    go_ret
    exact ⟨rfl, rfl⟩
  · by_cases c : pl x = 9218868437227405312
    · rw [nxt_end c]
      have C := Lib.hid c; have H := Lib.hid hx; have Hn := Lib.hid nx; clear hx nx
      generalize pl x = p at C
      go_enter Tryd.func16, Tryd.ntmps16
      go_wp2_with (first | (go_at_call 22; refine (none_no _ H.out Hn.out _).mono ?_; rintro e w' ⟨rfl, rfl⟩) | (go_at_call 26; (with_reducible refine (ieplace_any _ H.out Hn.out _).mono ?_); rintro e w' ⟨rfl, rfl⟩))
      go_ret
      exact ⟨rfl, rfl⟩
    · have b := pl_num nx
      obtain ⟨n1, n2, _⟩ := nxt_num nx c
      have e : RowKit.wrap64 (pl x + 1) = pl (nxt x) := by rw [n2]; exact w64 _ (by omega) (by omega)
      have E := Lib.hid e; have N := Lib.hid n1; have H := Lib.hid hx; have Hn := Lib.hid nx; clear hx nx e n1 n2 b
      go_enter Tryd.func16, Tryd.ntmps16
      go_wp2_with (first | (go_at_call 22; refine (none_no _ H.out Hn.out _).mono ?_; rintro e w' ⟨rfl, rfl⟩) | (go_at_call 26; (with_reducible refine (ieplace_any _ H.out Hn.out _).mono ?_); rintro e w' ⟨rfl, rfl⟩) | (go_at_call 29; (with_reducible refine (at_eq _ _ N.out E.out _).mono ?_); rintro e w' ⟨rfl, rfl⟩))
      go_ret
      exact ⟨rfl, rfl⟩
/-- ieee.Prev -/
theorem prev_any (x : Nat) (hx : x < 2 ^ 64) (w : World) :
    Calls Tryd.prog 17 #[.float .f64 x] w fun e w' => e = .returned (.float .f64 (prv x)) ∧ w = w' := by
  by_cases nx : isNan x
  · rw [prv_nan nx]
    have H := Lib.hid hx; have Hn := Lib.hid nx; clear hx nx
    go_enter Tryd.func17, Tryd.ntmps17
    go_wp2_with (go_at_call 22; refine (none_yes _ H.out Hn.out _).mono ?_; rintro e w' ⟨rfl, rfl⟩)
    go_ret
    exact ⟨rfl, rfl⟩
  · by_cases c : pl x = -9218868437227405313
    · rw [prv_end c]
      have C := Lib.hid c; have H := Lib.hid hx; have Hn := Lib.hid nx; clear hx nx
      go_enter Tryd.func17, Tryd.ntmps17
      go_wp2_with (first | (go_at_call 22; refine (none_no _ H.out Hn.out _).mono ?_; rintro e w' ⟨rfl, rfl⟩) | (go_at_call 26; (with_reducible refine (ieplace_any _ H.out Hn.out _).mono ?_); rintro e w' ⟨rfl, rfl⟩))
      go_ret
      exact ⟨rfl, rfl⟩
    · have b := pl_num nx
      obtain ⟨n1, n2, _⟩ := prv_num nx c
      have e : RowKit.wrap64 (pl x - 1) = pl (prv x) := by rw [n2]; exact w64 _ (by omega) (by omega)
      have E := Lib.hid e; have N := Lib.hid n1; have H := Lib.hid hx; have Hn := Lib.hid nx; clear hx nx e n1 n2 b
      go_enter Tryd.func17, Tryd.ntmps17
      go_wp2_with (first | (go_at_call 22; refine (none_no _ H.out Hn.out _).mono ?_; rintro e w' ⟨rfl, rfl⟩) | (go_at_call 26; (with_reducible refine (ieplace_any _ H.out Hn.out _).mono ?_); rintro e w' ⟨rfl, rfl⟩) | (go_at_call 29; (with_reducible refine (at_eq _ _ N.out E.out _).mono ?_); rintro e w' ⟨rfl, rfl⟩))
      go_ret
      exact ⟨rfl, rfl⟩
/-- ieee.Min -/
theorem min_any (x y : Nat) (hx : x < 2 ^ 64) (hy : y < 2 ^ 64) (w : World) :
    Calls Tryd.prog 11 #[.float .f64 x, .float .f64 y] w fun e w' => e = .returned (.float .f64 (fmin x y)) ∧ w = w' := by
  have h2 := frombits_run
  by_cases nx : isNan x
  · have e : fmin x y = NANQ := fmin_nan (.inl nx)
    rw [e]
    have H := Lib.hid hx; have Hn := Lib.hid nx; clear hx nx e hy
    go_enter Tryd.func11, Tryd.ntmps11
    go_wp2_with (go_at_call 22; refine (none_yes _ H.out Hn.out _).mono ?_; rintro e w' ⟨rfl, rfl⟩)
    go_ret
    exact ⟨rfl, rfl⟩
  · by_cases ny : isNan y
    · have e : fmin x y = NANQ := fmin_nan (.inr ny)
      rw [e]
      have H := Lib.hid hx; have Hn := Lib.hid nx; have H' := Lib.hid hy; have Hn' := Lib.hid ny; clear hx nx e hy ny
      go_enter Tryd.func11, Tryd.ntmps11
      go_wp2_with (first | (go_at_call 22; (with_reducible refine (none_no _ H.out Hn.out _).mono ?_); rintro e w' ⟨rfl, rfl⟩) | (go_at_call 22; (with_reducible refine (none_yes _ H'.out Hn'.out _).mono ?_); rintro e w' ⟨rfl, rfl⟩))
      go_ret
      exact ⟨rfl, rfl⟩
    · have f1 := fmin_l hx hy nx ny
      have f2 := fmin_r (x := x) (y := y) nx ny
      have H := Lib.hid hx; have Hn := Lib.hid nx; have H' := Lib.hid hy; have Hn' := Lib.hid ny; have F1 := Lib.hid f1; have F2 := Lib.hid f2; clear hx nx hy ny f1 f2
      go_enter Tryd.func11, Tryd.ntmps11
      go_wp2_with (first | (go_at_call 22; (with_reducible refine (none_no _ H.out Hn.out _).mono ?_); rintro e w' ⟨rfl, rfl⟩) | (go_at_call 22; (with_reducible refine (none_no _ H'.out Hn'.out _).mono ?_); rintro e w' ⟨rfl, rfl⟩) | (go_at_call 26; (with_reducible refine (ieplace_any _ H.out Hn.out _).mono ?_); rintro e w' ⟨rfl, rfl⟩) | (go_at_call 26; (with_reducible refine (ieplace_any _ H'.out Hn'.out _).mono ?_); rintro e w' ⟨rfl, rfl⟩) | (go_at_call 29; (with_reducible refine (at_any _ H.out _).mono ?_); rintro e w' ⟨rfl, rfl⟩) | (go_at_call 29; (with_reducible refine (at_any _ H'.out _).mono ?_); rintro e w' ⟨rfl, rfl⟩))
      all_goals go_ret
      all_goals first | exact ⟨ret_float (F1.out (by omega)).symm, rfl⟩ | exact ⟨ret_float (F2.out (by omega)).symm, rfl⟩
end Go.Proofs.YtokmommlabdcdaaDoor
namespace Go.Proofs.YtokmommlabdcdaaDoor
open Fl
theorem ulp_top (x : Nat) (hx : x < 2 ^ 64) (hf : ¬ fin x) (w : World) :
    Calls Tryd.prog 18 #[.float .f64 x] w fun e w' => e = .returned (.float .f64 NANQ) ∧ w = w' := by
  have h1 := frombits_run
  have hs := size_any x hx w
  have a1 : 9218868437227405312 ≤ (rg x : Int) := by unfold fin INF at hf; omega
  have S := Lib.hid hs
  generalize (rg x : Int) = s at *
  clear hx hf hs
  go_enter Tryd.func18, Tryd.ntmps18
  go_wp2_with (go_at_call 31; refine S.out.mono ?_; rintro e w' ⟨rfl, rfl⟩)
  go_ret
  exact ⟨rfl, rfl⟩
theorem ulp_zero (x : Nat) (hx : x < 2 ^ 64) (h2 : rg x / 2 ^ 52 = 0) (w : World) :
    Calls Tryd.prog 18 #[.float .f64 x] w fun e w' => e = .returned (.float .f64 1) ∧ w = w' := by
  have h1 := frombits_run
  have hs := size_any x hx w
  have a1 : ¬ 9218868437227405312 ≤ (rg x : Int) := by omega
  have a2 : RowKit.wrap64 ((rg x : Int) / 4503599627370496) = 0 := by rw [w64 _ (by omega) (by omega)]; omega
  have S := Lib.hid hs
  generalize (rg x : Int) = s at *
  clear hx hs h2
  go_enter Tryd.func18, Tryd.ntmps18
  go_wp2_with (go_at_call 31; refine S.out.mono ?_; rintro e w' ⟨rfl, rfl⟩)
  all_goals go_ret
  all_goals exact ⟨rfl, rfl⟩
theorem ulp_low (x : Nat) (hx : x < 2 ^ 64) (h0 : 1 ≤ rg x / 2 ^ 52) (h2 : rg x / 2 ^ 52 ≤ 52) (w : World) :
    Calls Tryd.prog 18 #[.float .f64 x] w fun e w' => e = .returned (.float .f64 (2 ^ (rg x / 2 ^ 52 - 1))) ∧ w = w' := by
  have h1 := frombits_run
  have hs := size_any x hx w
  have a1 : ¬ 9218868437227405312 ≤ (rg x : Int) := by omega
  obtain ⟨k, hk⟩ : ∃ k, k = rg x / 2 ^ 52 - 1 := ⟨_, rfl⟩
  have a2 : RowKit.wrap64 ((rg x : Int) / 4503599627370496) = (k : Int) + 1 := by rw [w64 _ (by omega) (by omega)]; omega
  have a3 : (k : Int) + 1 ≤ 52 := by omega
  have a4 : RowKit.wrap64 ((k : Int) + 1 - 1) = (k : Int) := by rw [w64 _ (by omega) (by omega)]; omega
  have a5 : (0 : Int) ≤ k := by omega
  have a6 : (IntKind.u64.wrap (2 ^ ((k : Int).toNat))).toNat = 2 ^ k := by
    have e1 : ((k : Int).toNat) = k := by omega
    have e2 : 2 ^ k < 2 ^ 64 := Nat.pow_lt_pow_right (by decide) (by omega)
    rw [e1, show ((2 : Int) ^ k) = ((2 ^ k : Nat) : Int) by norm_cast]
    generalize 2 ^ k = q at *
    rw [u64w _ (by omega) (by omega)]; omega
  have a7 : ¬ 0 < (k : Int) → (IntKind.u64.wrap 1).toNat = 2 ^ k := by
    intro h
    obtain rfl : k = 0 := by omega
    rfl
  rw [← hk]
  have A6 := Lib.hid a6
  have A7 := Lib.hid a7
  have S := Lib.hid hs
  generalize (rg x : Int) = s at *
  generalize (k : Int) = z at *
  clear hx hs h0 h2 a6 a7 hk
  go_enter Tryd.func18, Tryd.ntmps18
  go_wp2_with (go_at_call 31; refine S.out.mono ?_; rintro e w' ⟨rfl, rfl⟩)
  all_goals go_ret
  · exact ⟨ret_float A6.out, rfl⟩
  · exact ⟨ret_float (A7.out (by omega)), rfl⟩
theorem ulp_high (x : Nat) (hx : x < 2 ^ 64) (hf : fin x) (h2 : 53 ≤ rg x / 2 ^ 52) (w : World) :
    Calls Tryd.prog 18 #[.float .f64 x] w fun e w' => e = .returned (.float .f64 ((rg x / 2 ^ 52 - 52) * 2 ^ 52)) ∧ w = w' := by
  have h1 := frombits_run
  have hs := size_any x hx w
  unfold fin INF at hf
  have a1 : ¬ 9218868437227405312 ≤ (rg x : Int) := by omega
  obtain ⟨k, hk⟩ : ∃ k, k = rg x / 2 ^ 52 - 52 := ⟨_, rfl⟩
  have a2 : RowKit.wrap64 ((rg x : Int) / 4503599627370496) = (k : Int) + 52 := by rw [w64 _ (by omega) (by omega)]; omega
  have a3 : ¬ (k : Int) + 52 ≤ 52 := by omega
  have a4 : RowKit.wrap64 ((k : Int) + 52 - 52) = (k : Int) := by rw [w64 _ (by omega) (by omega)]; omega
  have a5 : RowKit.wrap64 (k : Int) = (k : Int) := w64 _ (by omega) (by omega)
  have a6 : (IntKind.u64.wrap (IntKind.u64.wrap (k : Int) * 4503599627370496)).toNat = k * 2 ^ 52 := by
    rw [u64w (k : Int) (by omega) (by omega), u64w _ (by omega) (by omega)]; omega
  rw [← hk]
  have A6 := Lib.hid a6
  have S := Lib.hid hs
  generalize (rg x : Int) = s at *
  generalize (k : Int) = z at *
  clear hx hs hf h2 a6 hk
  go_enter Tryd.func18, Tryd.ntmps18
  go_wp2_with (go_at_call 31; refine S.out.mono ?_; rintro e w' ⟨rfl, rfl⟩)
  go_ret
  exact ⟨ret_float A6.out, rfl⟩
/-- what ieee.Ulp answers -/
theorem ulp_any (x : Nat) (hx : x < 2 ^ 64) (w : World) :
    Calls Tryd.prog 18 #[.float .f64 x] w fun e w' => e = .returned (.float .f64 (ulpW x)) ∧ w = w' := by
  unfold ulpW
  by_cases hf : fin x
  · rw [if_neg (not_not_intro hf)]
    by_cases h2 : rg x / 2 ^ 52 ≤ 52
    · rw [if_pos h2]
      by_cases h0 : rg x / 2 ^ 52 = 0
      · rw [h0]; exact ulp_zero x hx h0 w
      · exact ulp_low x hx (by omega) h2 w
    · rw [if_neg h2]; exact ulp_high x hx hf (by omega) w
  · rw [if_pos hf]; exact ulp_top x hx hf w
theorem unary_neg (x : Nat) (hx : x < 2 ^ 64) (w : World) : (Op.unary .neg (.float .f64 x)).run Tryd.prog w = .ok (.float .f64 (neg x)) w := by
  rw [← negFloat_eq x hx]; rfl
theorem rg_lt' (x : Nat) : rg x < 2 ^ 64 := Nat.lt_trans (rg_lt x) (by decide)
/-- math.Signbit -/
theorem signbit_any (x : Nat) (hx : x < 2 ^ 64) (w : World) :
    Calls Tryd.prog 25 #[.float .f64 x] w fun e w' => e = .returned (.bool (sg x)) ∧ w = w' := by
  have h2 := f64bits_run
  have e : decide (RowKit.wrap64 (x : Int) < 0) = sg x := by
    have hr := rg_lt x
    cases hs : sg x
    · rw [place_pos x hx hs, pl_false hs]; exact decide_eq_false (by omega)
    · have := sg_true hx hs
      unfold RowKit.wrap64
      exact decide_eq_true (by omega)
  have E := Lib.hid e; clear e hx
  go_enter Tryd.func25, Tryd.ntmps25
  go_wp2
  go_ret
  exact ⟨ret_bool E.out, rfl⟩
end Go.Proofs.YtokmommlabdcdaaDoor
