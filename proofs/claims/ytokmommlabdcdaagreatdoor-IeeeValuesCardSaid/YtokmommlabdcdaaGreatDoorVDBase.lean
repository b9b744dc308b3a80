/- Contracts of math's and surdlaw0's small functions: what each call answers, for any words; the world is as it was but for draws. Contracts of package ieee's functions that look at one word or two: what each answers; the world is as it was. Contracts of package ieee's functions on the row of all floats: Order, Next, Prev, Min; the world is as it was. No contract of package cpx is wanted here. Contracts of math's small functions on floats: IsInf, IsNaN, normalize. Contracts of ieee.Ulp, math.IsInf, math.Signbit, math.Frexp. Contract of math.Ldexp where nothing is small: the exponent's field moves. Contract of math.Ldexp of a whole number of at most 53 bits: the rounded number, where it is great or small too. -/
import Derived.Test.YtokmommlabdcdaaGreatDoorProg
import Derived.Test.YtokmommlabdcdaaGreatDoorVFlRel
import Derived.Lib.Hide
set_option linter.unusedVariables false
set_option linter.unusedSimpArgs false
namespace Go.Proofs.YtokmommlabdcdaaGreatDoor
open Fl
theorem f64bits_run (x : Nat) (w : World) : (callFunc 36 #[.float .f64 x]).run Tryz.prog w = .ok (.value (.int .u64 x)) w := by
  rw [run_callFunc_extern (e := Extern.MathFloatBits.float64bits) Tryz.func36 (by kernel_rfl) (by kernel_rfl) (by kernel_rfl) (by kernel_rfl)]
  rfl
theorem frombits_run (n : Int) (w : World) : (callFunc 31 #[.int .u64 n]).run Tryz.prog w = .ok (.value (.float .f64 n.toNat)) w := by
  rw [run_callFunc_extern (e := Extern.MathFloatBits.float64frombits) Tryz.func31 (by kernel_rfl) (by kernel_rfl) (by kernel_rfl) (by kernel_rfl)]
  rfl

/-- 'math.Abs' -/
theorem abs_any (x : Nat) (hx : x < 2 ^ 64) (w : World) :
    Calls Tryz.prog 37 #[.float .f64 x] w fun e w' => e = .returned (.float .f64 (rg x)) ∧ w = w' := by
  have h1 := f64bits_run
  have h2 := frombits_run
  have hb := bits_size x hx
  have H := Lib.hid hx; clear hx
  go_enter Tryz.func37, Tryz.ntmps37
  go_wp2
  go_ret
  exact ⟨rfl, rfl⟩

theorem order_nan_same (x y : Nat) : sameB x y = (if FloatKind.f64.format.order x x = some .eq then ((x : Int) == (y : Int)) else if FloatKind.f64.format.order y y = some .eq then ((x : Int) == (y : Int)) else true) := by
  have a := order_self x
  have b := order_self y
  have e : FloatKind.f64.format = D := rfl
  have c : ((x : Int) == (y : Int)) = decide (x = y) := by
    by_cases h : x = y
    · subst h; simp
    · rw [decide_eq_false h]; simp; omega
  rw [e, c]
  unfold sameB Same
  by_cases hx : isNan x
  · rw [if_neg (by rw [a]; exact not_not_intro hx)]
    by_cases hy : isNan y
    · rw [if_neg (by rw [b]; exact not_not_intro hy)]; simp [hx, hy]
    · rw [if_pos (by rw [b]; exact hy)]; simp [hx, hy]
  · rw [if_pos (by rw [a]; exact hx)]; simp [hx]

/-- 'surdlaw0.SameF' -/
theorem sameF_any (x y : Nat) (w : World) :
    Calls Tryz.prog 25 #[.float .f64 x, .float .f64 y] w fun e w' => e = .returned (.bool (sameB x y)) ∧ w = w' := by
  have h1 := f64bits_run
  have hs := order_nan_same x y
  have H := Lib.hid hs; clear hs
  go_enter Tryz.func25, Tryz.ntmps25
  go_wp2
  all_goals (go_ret; rw [H.out]; simp [*])

/-- 'surdlaw0.F' -/
theorem f_any (a : Int) (w : World) :
    Calls Tryz.prog 5 #[.int .u64 a] w fun e w' => e = .returned (.float .f64 a.toNat) ∧ w = w' := by
  have h2 := frombits_run
  go_enter Tryz.func5, Tryz.ntmps5
  go_wp2
  go_ret
  exact ⟨rfl, rfl⟩
theorem num_any (a : Int) (w : World) :
    Calls Tryz.prog 8 #[.int .i64 a] w fun e w' => e = .returned (.int .i64 a) ∧ w = w' := by
  go_enter Tryz.func8, Tryz.ntmps8
  go_wp2
  go_ret
  exact ⟨rfl, rfl⟩

end Go.Proofs.YtokmommlabdcdaaGreatDoor
namespace Go.Proofs.YtokmommlabdcdaaGreatDoor
open Fl

theorem size_any (x : Nat) (hx : x < 2 ^ 64) (w : World) :
    Calls Tryz.prog 32 #[.float .f64 x] w fun e w' => e = .returned (.int .u64 (rg x)) ∧ w = w' := by
  have h1 := f64bits_run
  have hb := bits_size x hx
  have H := Lib.hid hx; clear hx
  go_enter Tryz.func32, Tryz.ntmps32
  go_wp2
  go_ret
  exact ⟨rfl, rfl⟩
theorem none_any (x : Nat) (hx : x < 2 ^ 64) (w : World) :
    Calls Tryz.prog 48 #[.float .f64 x] w fun e w' => e = .returned (.bool (decide (isNan x))) ∧ w = w' := by
  have H := Lib.hid hx; clear hx
  go_enter Tryz.func48, Tryz.ntmps48
  go_wp2_with (go_at_call 32; refine (size_any _ H.out _).mono ?_; rintro e w' ⟨rfl, rfl⟩)
  go_ret
  exact ⟨ret_bool (nan_test x), rfl⟩
theorem none_no (x : Nat) (hx : x < 2 ^ 64) (hn : ¬ isNan x) (w : World) :
    Calls Tryz.prog 48 #[.float .f64 x] w fun e w' => e = .returned (.bool false) ∧ w = w' := by
  refine (none_any x hx w).mono ?_
  rintro e w' ⟨rfl, rfl⟩
  exact ⟨by rw [decide_eq_false hn], rfl⟩
theorem none_yes (x : Nat) (hx : x < 2 ^ 64) (hn : isNan x) (w : World) :
    Calls Tryz.prog 48 #[.float .f64 x] w fun e w' => e = .returned (.bool true) ∧ w = w' := by
  refine (none_any x hx w).mono ?_
  rintro e w' ⟨rfl, rfl⟩
  exact ⟨by rw [decide_eq_true hn], rfl⟩
theorem ieplace_any (x : Nat) (hx : x < 2 ^ 64) (hn : ¬ isNan x) (w : World) :
    Calls Tryz.prog 49 #[.float .f64 x] w fun e w' => e = .returned (.int .i64 (pl x)) ∧ w = w' := by
  have h1 := f64bits_run
  have hb := bits_size x hx
  have hs := sign_test x hx
  have H := Lib.hid hx; have Hn := Lib.hid hn; clear hx hn
  cases hg : sg x
  all_goals
    rw [hg] at hs
    have G := Lib.hid hg; clear hg
    go_enter Tryz.func49, Tryz.ntmps49
    go_wp2_with (go_at_call 48; refine (none_no _ H.out Hn.out _).mono ?_; rintro e w' ⟨rfl, rfl⟩)
    go_ret
  · exact ⟨ret_int (place_pos x H.out G.out), rfl⟩
  · exact ⟨ret_int (place_neg x G.out), rfl⟩
theorem place_nan (x : Nat) (hx : x < 2 ^ 64) (hn : isNan x) (w : World) :
    Calls Tryz.prog 49 #[.float .f64 x] w fun e w' => e = .returned (.int .i64 9223372036854775807) ∧ w = w' := by
  have H := Lib.hid hx; have Hn := Lib.hid hn; clear hx hn
  go_enter Tryz.func49, Tryz.ntmps49
  go_wp2_with (go_at_call 48; refine (none_yes _ H.out Hn.out _).mono ?_; rintro e w' ⟨rfl, rfl⟩)
  go_ret
  exact ⟨rfl, rfl⟩
theorem at_any (x : Nat) (hx : x < 2 ^ 64) (w : World) :
    Calls Tryz.prog 50 #[.int .i64 (pl x)] w fun e w' => e = .returned (.float .f64 x) ∧ w = w' := by
  have h1 := frombits_run
  have hp := pl_neg x
  cases hg : sg x
  · have hp2 : ¬ pl x < 0 := by rw [hp, hg]; decide
    have e := at_pos x hx hg
    have E := Lib.hid e; clear e hp hg hx
    generalize pl x = p at *
    go_enter Tryz.func50, Tryz.ntmps50
    go_wp2
    go_ret
    exact ⟨ret_float E.out, rfl⟩
  · have hp2 : pl x < 0 := by rw [hp, hg]
    have e := at_neg x hx hg
    have E := Lib.hid e; clear e hp hg hx
    generalize pl x = p at *
    go_enter Tryz.func50, Tryz.ntmps50
    go_wp2
    go_ret
    exact ⟨ret_float E.out, rfl⟩
theorem max_any (x y : Nat) (hx : x < 2 ^ 64) (hy : y < 2 ^ 64) (w : World) :
    Calls Tryz.prog 41 #[.float .f64 x, .float .f64 y] w fun e w' => e = .returned (.float .f64 (fmax x y)) ∧ w = w' := by
  have h2 := frombits_run
  by_cases nx : isNan x
  · have e : fmax x y = NANQ := by unfold fmax; rw [if_pos (.inl nx)]
    rw [e]
    have H := Lib.hid hx; have Hn := Lib.hid nx; clear hx nx e hy
    go_enter Tryz.func41, Tryz.ntmps41
    go_wp2_with (go_at_call 48; refine (none_yes _ H.out Hn.out _).mono ?_; rintro e w' ⟨rfl, rfl⟩)
    go_ret
    exact ⟨rfl, rfl⟩
  · by_cases ny : isNan y
    · have e : fmax x y = NANQ := by unfold fmax; rw [if_pos (.inr ny)]
      rw [e]
      have H := Lib.hid hx; have Hn := Lib.hid nx; have H' := Lib.hid hy; have Hn' := Lib.hid ny; clear hx nx e hy ny
      go_enter Tryz.func41, Tryz.ntmps41
      go_wp2_with (first | (go_at_call 48; (with_reducible refine (none_no _ H.out Hn.out _).mono ?_); rintro e w' ⟨rfl, rfl⟩) | (go_at_call 48; (with_reducible refine (none_yes _ H'.out Hn'.out _).mono ?_); rintro e w' ⟨rfl, rfl⟩))
      go_ret
      exact ⟨rfl, rfl⟩
    · have f1 := fmax_r nx ny
      have f2 := fmax_l hx hy nx ny
      have H := Lib.hid hx; have Hn := Lib.hid nx; have H' := Lib.hid hy; have Hn' := Lib.hid ny; have F1 := Lib.hid f1; have F2 := Lib.hid f2; clear hx nx hy ny f1 f2
      go_enter Tryz.func41, Tryz.ntmps41
      go_wp2_with (first | (go_at_call 48; (with_reducible refine (none_no _ H.out Hn.out _).mono ?_); rintro e w' ⟨rfl, rfl⟩) | (go_at_call 48; (with_reducible refine (none_no _ H'.out Hn'.out _).mono ?_); rintro e w' ⟨rfl, rfl⟩) | (go_at_call 49; (with_reducible refine (ieplace_any _ H.out Hn.out _).mono ?_); rintro e w' ⟨rfl, rfl⟩) | (go_at_call 49; (with_reducible refine (ieplace_any _ H'.out Hn'.out _).mono ?_); rintro e w' ⟨rfl, rfl⟩) | (go_at_call 50; (with_reducible refine (at_any _ H.out _).mono ?_); rintro e w' ⟨rfl, rfl⟩) | (go_at_call 50; (with_reducible refine (at_any _ H'.out _).mono ?_); rintro e w' ⟨rfl, rfl⟩))
      · go_ret
        exact ⟨ret_float (F1.out (by omega)).symm, rfl⟩
      · go_ret
        exact ⟨ret_float (F2.out (by omega)).symm, rfl⟩
/-- ieee.Class -/
theorem class_any (x : Nat) (hx : x < 2 ^ 64) (w : World) :
    Calls Tryz.prog 23 #[.float .f64 x] w fun e w' => e = .returned (.int .i64 (clsF x)) ∧ w = w' := by
  have c := clsF_cases x
  have H := Lib.hid hx; have C := Lib.hid c; clear hx c
  go_enter Tryz.func23, Tryz.ntmps23
  go_wp2_with (go_at_call 32; refine (size_any _ H.out _).mono ?_; rintro e w' ⟨rfl, rfl⟩)
  all_goals
    go_ret
    refine ⟨ret_int ?_, rfl⟩
    rw [C.out]
    clear C
    (try simp only [beq_iff_eq, beq_eq_false_iff_ne, ne_eq] at *)
    repeat' split
    all_goals omega
/-- ieee.Same -/
theorem same_any (x y : Nat) (hx : x < 2 ^ 64) (hy : y < 2 ^ 64) (w : World) :
    Calls Tryz.prog 38 #[.float .f64 x, .float .f64 y] w fun e w' => e = .returned (.bool (sameB x y)) ∧ w = w' := by
  have h1 := f64bits_run
  have c := sameB_eq x y
  have H := Lib.hid hx; have H' := Lib.hid hy; have C := Lib.hid c; clear hx hy c
  by_cases nx : isNan x <;> by_cases ny : isNan y
  all_goals
    have Hn := Lib.hid nx; have Hn' := Lib.hid ny; clear nx ny
    go_enter Tryz.func38, Tryz.ntmps38
    go_wp2_with (first | (go_at_call 48; (with_reducible refine (none_no _ H.out Hn.out _).mono ?_); rintro e w' ⟨rfl, rfl⟩) | (go_at_call 48; (with_reducible refine (none_yes _ H.out Hn.out _).mono ?_); rintro e w' ⟨rfl, rfl⟩) | (go_at_call 48; (with_reducible refine (none_no _ H'.out Hn'.out _).mono ?_); rintro e w' ⟨rfl, rfl⟩) | (go_at_call 48; (with_reducible refine (none_yes _ H'.out Hn'.out _).mono ?_); rintro e w' ⟨rfl, rfl⟩))
    go_ret
    exact ⟨ret_bool (by rw [C.out]; simp [Hn.out, Hn'.out]), rfl⟩
end Go.Proofs.YtokmommlabdcdaaGreatDoor
namespace Go.Proofs.YtokmommlabdcdaaGreatDoor
open Fl
theorem placeT_any (x : Nat) (hx : x < 2 ^ 64) (w : World) :
    Calls Tryz.prog 49 #[.float .f64 x] w fun e w' => e = .returned (.int .i64 (plT x)) ∧ w = w' := by
  by_cases h : isNan x
  · rw [plT_nan h]; exact place_nan x hx h w
  · rw [plT_num h]; exact ieplace_any x hx h w
/-- ieee.Order -/
theorem order_any (x y : Nat) (hx : x < 2 ^ 64) (hy : y < 2 ^ 64) (w : World) :
    Calls Tryz.prog 39 #[.float .f64 x, .float .f64 y] w fun e w' => e = .returned (.int .i64 (ordI x y)) ∧ w = w' := by
  have H := Lib.hid hx; have H' := Lib.hid hy; clear hx hy
  by_cases c : plT x < plT y
  · have e : ordI x y = -1 := by unfold ordI; rw [if_pos c]
    rw [e]; clear e
    go_enter Tryz.func39, Tryz.ntmps39
    go_wp2_with (first | (go_at_call 49; (with_reducible refine (placeT_any _ H.out _).mono ?_); rintro e w' ⟨rfl, rfl⟩) | (go_at_call 49; (with_reducible refine (placeT_any _ H'.out _).mono ?_); rintro e w' ⟨rfl, rfl⟩))
    go_ret
    exact ⟨rfl, rfl⟩
  · by_cases d : plT y < plT x
    · have e : ordI x y = 1 := by unfold ordI; rw [if_neg c, if_pos d]
      rw [e]; clear e
      go_enter Tryz.func39, Tryz.ntmps39
      go_wp2_with (first | (go_at_call 49; (with_reducible refine (placeT_any _ H.out _).mono ?_); rintro e w' ⟨rfl, rfl⟩) | (go_at_call 49; (with_reducible refine (placeT_any _ H'.out _).mono ?_); rintro e w' ⟨rfl, rfl⟩))
      go_ret
      exact ⟨rfl, rfl⟩
    · have e : ordI x y = 0 := by unfold ordI; rw [if_neg c, if_neg d]
      rw [e]; clear e
      go_enter Tryz.func39, Tryz.ntmps39
      go_wp2_with (first | (go_at_call 49; (with_reducible refine (placeT_any _ H.out _).mono ?_); rintro e w' ⟨rfl, rfl⟩) | (go_at_call 49; (with_reducible refine (placeT_any _ H'.out _).mono ?_); rintro e w' ⟨rfl, rfl⟩))
      go_ret
      exact ⟨rfl, rfl⟩
theorem at_eq (x : Nat) (p : Int) (hx : x < 2 ^ 64) (hp : p = pl x) (w : World) :
    Calls Tryz.prog 50 #[.int .i64 p] w fun e w' => e = .returned (.float .f64 x) ∧ w = w' := by
  subst hp; exact at_any x hx w
/-- ieee.Next -/
theorem next_any (x : Nat) (hx : x < 2 ^ 64) (w : World) :
    Calls Tryz.prog 17 #[.float .f64 x] w fun e w' => e = .returned (.float .f64 (nxt x)) ∧ w = w' := by
  by_cases nx : isNan x
  · rw [nxt_nan nx]
    have H := Lib.hid hx; have Hn := Lib.hid nx; clear hx nx
    go_enter Tryz.func17, Tryz.ntmps17
    go_wp2_with (go_at_call 48; refine (none_yes _ H.out Hn.out _).mono ?_; rintro e w' ⟨rfl, rfl⟩)
    go_ret
    exact ⟨rfl, rfl⟩
  · by_cases c : pl x = 9218868437227405312
    · rw [nxt_end c]
      have C := Lib.hid c; have H := Lib.hid hx; have Hn := Lib.hid nx; clear hx nx
      generalize pl x = p at C
      go_enter Tryz.func17, Tryz.ntmps17
      go_wp2_with (first | (go_at_call 48; refine (none_no _ H.out Hn.out _).mono ?_; rintro e w' ⟨rfl, rfl⟩) | (go_at_call 49; (with_reducible refine (ieplace_any _ H.out Hn.out _).mono ?_); rintro e w' ⟨rfl, rfl⟩))
      go_ret
      exact ⟨rfl, rfl⟩
    · have b := pl_num nx
      obtain ⟨n1, n2, _⟩ := nxt_num nx c
      have e : RowKit.wrap64 (pl x + 1) = pl (nxt x) := by rw [n2]; exact w64 _ (by omega) (by omega)
      have E := Lib.hid e; have N := Lib.hid n1; have H := Lib.hid hx; have Hn := Lib.hid nx; clear hx nx e n1 n2 b
      go_enter Tryz.func17, Tryz.ntmps17
      go_wp2_with (first | (go_at_call 48; refine (none_no _ H.out Hn.out _).mono ?_; rintro e w' ⟨rfl, rfl⟩) | (go_at_call 49; (with_reducible refine (ieplace_any _ H.out Hn.out _).mono ?_); rintro e w' ⟨rfl, rfl⟩) | (go_at_call 50; (with_reducible refine (at_eq _ _ N.out E.out _).mono ?_); rintro e w' ⟨rfl, rfl⟩))
      go_ret
      exact ⟨rfl, rfl⟩
/-- ieee.Prev -/
theorem prev_any (x : Nat) (hx : x < 2 ^ 64) (w : World) :
    Calls Tryz.prog 27 #[.float .f64 x] w fun e w' => e = .returned (.float .f64 (prv x)) ∧ w = w' := by
  by_cases nx : isNan x
  · rw [prv_nan nx]
    have H := Lib.hid hx; have Hn := Lib.hid nx; clear hx nx
    go_enter Tryz.func27, Tryz.ntmps27
    go_wp2_with (go_at_call 48; refine (none_yes _ H.out Hn.out _).mono ?_; rintro e w' ⟨rfl, rfl⟩)
    go_ret
    exact ⟨rfl, rfl⟩
  · by_cases c : pl x = -9218868437227405313
    · rw [prv_end c]
      have C := Lib.hid c; have H := Lib.hid hx; have Hn := Lib.hid nx; clear hx nx
      go_enter Tryz.func27, Tryz.ntmps27
      go_wp2_with (first | (go_at_call 48; refine (none_no _ H.out Hn.out _).mono ?_; rintro e w' ⟨rfl, rfl⟩) | (go_at_call 49; (with_reducible refine (ieplace_any _ H.out Hn.out _).mono ?_); rintro e w' ⟨rfl, rfl⟩))
      go_ret
      exact ⟨rfl, rfl⟩
    · have b := pl_num nx
      obtain ⟨n1, n2, _⟩ := prv_num nx c
      have e : RowKit.wrap64 (pl x - 1) = pl (prv x) := by rw [n2]; exact w64 _ (by omega) (by omega)
      have E := Lib.hid e; have N := Lib.hid n1; have H := Lib.hid hx; have Hn := Lib.hid nx; clear hx nx e n1 n2 b
      go_enter Tryz.func27, Tryz.ntmps27
      go_wp2_with (first | (go_at_call 48; refine (none_no _ H.out Hn.out _).mono ?_; rintro e w' ⟨rfl, rfl⟩) | (go_at_call 49; (with_reducible refine (ieplace_any _ H.out Hn.out _).mono ?_); rintro e w' ⟨rfl, rfl⟩) | (go_at_call 50; (with_reducible refine (at_eq _ _ N.out E.out _).mono ?_); rintro e w' ⟨rfl, rfl⟩))
      go_ret
      exact ⟨rfl, rfl⟩
/-- ieee.Min -/
theorem min_any (x y : Nat) (hx : x < 2 ^ 64) (hy : y < 2 ^ 64) (w : World) :
    Calls Tryz.prog 40 #[.float .f64 x, .float .f64 y] w fun e w' => e = .returned (.float .f64 (fmin x y)) ∧ w = w' := by
  have h2 := frombits_run
  by_cases nx : isNan x
  · have e : fmin x y = NANQ := fmin_nan (.inl nx)
    rw [e]
    have H := Lib.hid hx; have Hn := Lib.hid nx; clear hx nx e hy
    go_enter Tryz.func40, Tryz.ntmps40
    go_wp2_with (go_at_call 48; refine (none_yes _ H.out Hn.out _).mono ?_; rintro e w' ⟨rfl, rfl⟩)
    go_ret
    exact ⟨rfl, rfl⟩
  · by_cases ny : isNan y
    · have e : fmin x y = NANQ := fmin_nan (.inr ny)
      rw [e]
      have H := Lib.hid hx; have Hn := Lib.hid nx; have H' := Lib.hid hy; have Hn' := Lib.hid ny; clear hx nx e hy ny
      go_enter Tryz.func40, Tryz.ntmps40
      go_wp2_with (first | (go_at_call 48; (with_reducible refine (none_no _ H.out Hn.out _).mono ?_); rintro e w' ⟨rfl, rfl⟩) | (go_at_call 48; (with_reducible refine (none_yes _ H'.out Hn'.out _).mono ?_); rintro e w' ⟨rfl, rfl⟩))
      go_ret
      exact ⟨rfl, rfl⟩
    · have f1 := fmin_l hx hy nx ny
      have f2 := fmin_r (x := x) (y := y) nx ny
      have H := Lib.hid hx; have Hn := Lib.hid nx; have H' := Lib.hid hy; have Hn' := Lib.hid ny; have F1 := Lib.hid f1; have F2 := Lib.hid f2; clear hx nx hy ny f1 f2
      go_enter Tryz.func40, Tryz.ntmps40
      go_wp2_with (first | (go_at_call 48; (with_reducible refine (none_no _ H.out Hn.out _).mono ?_); rintro e w' ⟨rfl, rfl⟩) | (go_at_call 48; (with_reducible refine (none_no _ H'.out Hn'.out _).mono ?_); rintro e w' ⟨rfl, rfl⟩) | (go_at_call 49; (with_reducible refine (ieplace_any _ H.out Hn.out _).mono ?_); rintro e w' ⟨rfl, rfl⟩) | (go_at_call 49; (with_reducible refine (ieplace_any _ H'.out Hn'.out _).mono ?_); rintro e w' ⟨rfl, rfl⟩) | (go_at_call 50; (with_reducible refine (at_any _ H.out _).mono ?_); rintro e w' ⟨rfl, rfl⟩) | (go_at_call 50; (with_reducible refine (at_any _ H'.out _).mono ?_); rintro e w' ⟨rfl, rfl⟩))
      all_goals go_ret
      all_goals first | exact ⟨ret_float (F1.out (by omega)).symm, rfl⟩ | exact ⟨ret_float (F2.out (by omega)).symm, rfl⟩
end Go.Proofs.YtokmommlabdcdaaGreatDoor

namespace Go.Proofs.YtokmommlabdcdaaGreatDoor
open Fl
theorem unary_neg (x : Nat) (hx : x < 2 ^ 64) (w : World) : (Op.unary .neg (.float .f64 x)).run Tryz.prog w = .ok (.float .f64 (neg x)) w := by
  rw [← negFloat_eq x hx]; rfl
theorem rg_lt' (x : Nat) : rg x < 2 ^ 64 := Nat.lt_trans (rg_lt x) (by decide)
/-- math.IsInf -/
theorem isInf0_any (x : Nat) (hx : x < 2 ^ 64) (w : World) :
    Calls Tryz.prog 7 #[.float .f64 x, .int .i64 0] w fun e w' => e = .returned (.bool (decide (rg x = INF))) ∧ w = w' := by
  have G := Lib.hid (gt_max (rg_lt' x))
  have H := Lib.hid hx; clear hx
  go_enter Tryz.func7, Tryz.ntmps7
  go_wp2_with (go_at_call 37; refine (abs_any _ H.out _).mono ?_; rintro e w' ⟨rfl, rfl⟩)
  go_ret
  exact ⟨ret_bool G.out, rfl⟩
theorem isNaN_any (x : Nat) (w : World) :
    Calls Tryz.prog 74 #[.float .f64 x] w fun e w' => e = .returned (.bool (decide (isNan x))) ∧ w = w' := by
  have e : (FloatKind.f64.format.order x x == some Ordering.eq) = decide (¬ isNan x) := beq_dec (order_self x)
  have E := Lib.hid e; clear e
  go_enter Tryz.func74, Tryz.ntmps74
  go_wp2
  go_ret
  exact ⟨ret_bool (by unfold bne; rw [E.out]; by_cases h : isNan x <;> simp [h]), rfl⟩
/-- math.normalize of a normal number -/
theorem normalize_norm (x : Nat) (hx : x < 2 ^ 64) (hf : rg x < INF) (hn : 2 ^ 52 ≤ rg x) (w : World) :
    Calls Tryz.prog 75 #[.float .f64 x] w fun e w' => e = .returned (.tuple #[.float .f64 x, .int .i64 0]) ∧ w = w' := by
  have e : (FloatKind.f64.format.order (rg x) 4503599627370496 == some Ordering.lt) = false := by
    have rr : rg (rg x) = rg x := Nat.mod_eq_of_lt (rg_lt x)
    have sr : sg (rg x) = false := by unfold sg; rw [Nat.div_eq_of_lt (rg_lt x)]; rfl
    rw [lt_small (by unfold isNan; rw [rr]; omega) sr, rr]
    exact decide_eq_false (by omega)
  have H := Lib.hid hx; clear hx hf hn
  go_enter Tryz.func75, Tryz.ntmps75
  go_wp2_with (go_at_call 37; refine (abs_any _ H.out _).mono ?_; rintro e w' ⟨rfl, rfl⟩)
  go_ret2
  exact ⟨rfl, rfl⟩
end Go.Proofs.YtokmommlabdcdaaGreatDoor
namespace Go.Proofs.YtokmommlabdcdaaGreatDoor
open Fl
theorem ulp_top (x : Nat) (hx : x < 2 ^ 64) (hf : ¬ fin x) (w : World) :
    Calls Tryz.prog 29 #[.float .f64 x] w fun e w' => e = .returned (.float .f64 NANQ) ∧ w = w' := by
  have h1 := frombits_run
  have hs := size_any x hx w
  have a1 : 9218868437227405312 ≤ (rg x : Int) := by unfold fin INF at hf; omega
  have S := Lib.hid hs
  generalize (rg x : Int) = s at *
  clear hx hf hs
  go_enter Tryz.func29, Tryz.ntmps29
  go_wp2_with (go_at_call 32; refine S.out.mono ?_; rintro e w' ⟨rfl, rfl⟩)
  go_ret
  exact ⟨rfl, rfl⟩
theorem ulp_zero (x : Nat) (hx : x < 2 ^ 64) (h2 : rg x / 2 ^ 52 = 0) (w : World) :
    Calls Tryz.prog 29 #[.float .f64 x] w fun e w' => e = .returned (.float .f64 1) ∧ w = w' := by
  have h1 := frombits_run
  have hs := size_any x hx w
  have a1 : ¬ 9218868437227405312 ≤ (rg x : Int) := by omega
  have a2 : RowKit.wrap64 ((rg x : Int) / 4503599627370496) = 0 := by rw [w64 _ (by omega) (by omega)]; omega
  have S := Lib.hid hs
  generalize (rg x : Int) = s at *
  clear hx hs h2
  go_enter Tryz.func29, Tryz.ntmps29
  go_wp2_with (go_at_call 32; refine S.out.mono ?_; rintro e w' ⟨rfl, rfl⟩)
  all_goals go_ret
  all_goals exact ⟨rfl, rfl⟩
theorem ulp_low (x : Nat) (hx : x < 2 ^ 64) (h0 : 1 ≤ rg x / 2 ^ 52) (h2 : rg x / 2 ^ 52 ≤ 52) (w : World) :
    Calls Tryz.prog 29 #[.float .f64 x] w fun e w' => e = .returned (.float .f64 (2 ^ (rg x / 2 ^ 52 - 1))) ∧ w = w' := by
  have h1 := frombits_run
  have hs := size_any x hx w
  have a1 : ¬ 9218868437227405312 ≤ (rg x : Int) := by omega
  obtain ⟨k, hk⟩ : ∃ k, k = rg x / 2 ^ 52 - 1 := ⟨_, rfl⟩
  have a2 : RowKit.wrap64 ((rg x : Int) / 4503599627370496) = (k : Int) + 1 := by rw [w64 _ (by omega) (by omega)]; omega
  have a3 : (k : Int) + 1 ≤ 52 := by omega
  have a4 : RowKit.wrap64 ((k : Int) + 1 - 1) = (k : Int) := by rw [w64 _ (by omega) (by omega)]; omega
  have a5 : (0 : Int) ≤ k := by omega
  have a6 : (IntKind.u64.wrap (2 ^ ((k : Int).toNat))).toNat = 2 ^ k := by
    have e1 : ((k : Int).toNat) = k := by omega
    have e2 : 2 ^ k < 2 ^ 64 := Nat.pow_lt_pow_right (by decide) (by omega)
    rw [e1, show ((2 : Int) ^ k) = ((2 ^ k : Nat) : Int) by norm_cast]
    generalize 2 ^ k = q at *
    rw [u64w _ (by omega) (by omega)]; omega
  have a7 : ¬ 0 < (k : Int) → (IntKind.u64.wrap 1).toNat = 2 ^ k := by
    intro h
    obtain rfl : k = 0 := by omega
    rfl
  rw [← hk]
  have A6 := Lib.hid a6
  have A7 := Lib.hid a7
  have S := Lib.hid hs
  generalize (rg x : Int) = s at *
  generalize (k : Int) = z at *
  clear hx hs h0 h2 a6 a7 hk
  go_enter Tryz.func29, Tryz.ntmps29
  go_wp2_with (go_at_call 32; refine S.out.mono ?_; rintro e w' ⟨rfl, rfl⟩)
  all_goals go_ret
  · exact ⟨ret_float A6.out, rfl⟩
  · exact ⟨ret_float (A7.out (by omega)), rfl⟩
theorem ulp_high (x : Nat) (hx : x < 2 ^ 64) (hf : fin x) (h2 : 53 ≤ rg x / 2 ^ 52) (w : World) :
    Calls Tryz.prog 29 #[.float .f64 x] w fun e w' => e = .returned (.float .f64 ((rg x / 2 ^ 52 - 52) * 2 ^ 52)) ∧ w = w' := by
  have h1 := frombits_run
  have hs := size_any x hx w
  unfold fin INF at hf
  have a1 : ¬ 9218868437227405312 ≤ (rg x : Int) := by omega
  obtain ⟨k, hk⟩ : ∃ k, k = rg x / 2 ^ 52 - 52 := ⟨_, rfl⟩
  have a2 : RowKit.wrap64 ((rg x : Int) / 4503599627370496) = (k : Int) + 52 := by rw [w64 _ (by omega) (by omega)]; omega
  have a3 : ¬ (k : Int) + 52 ≤ 52 := by omega
  have a4 : RowKit.wrap64 ((k : Int) + 52 - 52) = (k : Int) := by rw [w64 _ (by omega) (by omega)]; omega
  have a5 : RowKit.wrap64 (k : Int) = (k : Int) := w64 _ (by omega) (by omega)
  have a6 : (IntKind.u64.wrap (IntKind.u64.wrap (k : Int) * 4503599627370496)).toNat = k * 2 ^ 52 := by
    rw [u64w (k : Int) (by omega) (by omega), u64w _ (by omega) (by omega)]; omega
  rw [← hk]
  have A6 := Lib.hid a6
  have S := Lib.hid hs
  generalize (rg x : Int) = s at *
  generalize (k : Int) = z at *
  clear hx hs hf h2 a6 hk
  go_enter Tryz.func29, Tryz.ntmps29
  go_wp2_with (go_at_call 32; refine S.out.mono ?_; rintro e w' ⟨rfl, rfl⟩)
  go_ret
  exact ⟨ret_float A6.out, rfl⟩
/-- what ieee.Ulp answers -/
theorem ulp_any (x : Nat) (hx : x < 2 ^ 64) (w : World) :
    Calls Tryz.prog 29 #[.float .f64 x] w fun e w' => e = .returned (.float .f64 (ulpW x)) ∧ w = w' := by
  unfold ulpW
  by_cases hf : fin x
  · rw [if_neg (not_not_intro hf)]
    by_cases h2 : rg x / 2 ^ 52 ≤ 52
    · rw [if_pos h2]
      by_cases h0 : rg x / 2 ^ 52 = 0
      · rw [h0]; exact ulp_zero x hx h0 w
      · exact ulp_low x hx (by omega) h2 w
    · rw [if_neg h2]; exact ulp_high x hx hf (by omega) w
  · rw [if_pos hf]; exact ulp_top x hx hf w
/-- math.Signbit -/
theorem signbit_any (x : Nat) (hx : x < 2 ^ 64) (w : World) :
    Calls Tryz.prog 21 #[.float .f64 x] w fun e w' => e = .returned (.bool (sg x)) ∧ w = w' := by
  have h2 := f64bits_run
  have e : decide (RowKit.wrap64 (x : Int) < 0) = sg x := by
    have hr := rg_lt x
    cases hs : sg x
    · rw [place_pos x hx hs, pl_false hs]; exact decide_eq_false (by omega)
    · have := sg_true hx hs
      unfold RowKit.wrap64
      exact decide_eq_true (by omega)
  have E := Lib.hid e; clear e hx
  go_enter Tryz.func21, Tryz.ntmps21
  go_wp2
  go_ret
  exact ⟨ret_bool E.out, rfl⟩
end Go.Proofs.YtokmommlabdcdaaGreatDoor
namespace Go.Proofs.YtokmommlabdcdaaGreatDoor
open Fl Go.RowKit
theorem ldexp_low (x : Nat) (k : Int) (hx : x < 2 ^ 64) (h0 : 2 ^ 52 ≤ rg x) (hf : rg x < INF) (h1 : 1 ≤ (rg x / 2 ^ 52 : Nat) + k) (h2 : (rg x / 2 ^ 52 : Nat) + k ≤ 2046) (w : World) :
    Calls Tryz.prog 46 #[.float .f64 x, .int .i64 k] w fun e w' => e = .returned (.float .f64 (ldx x k)) ∧ ∃ n, w' = w.drewN n := by
  have h3 := f64bits_run
  have h4 := frombits_run
  have n0 : (FloatKind.f64.format.order x 0 == some Ordering.eq) = false := by
    rw [order_zeroB]; unfold zeroB; exact decide_eq_false (by omega)
  have n1 : decide (rg x = INF) = false := decide_eq_false (by omega)
  have n2 : decide (isNan x) = false := decide_eq_false (by unfold isNan; omega)
  have N := Lib.hid (normalize_norm x hx hf h0)
  obtain ⟨f1, f2, f3, f4⟩ := ldx_facts h1 h2
  have M := Lib.hid (mul_one' f4 f3)
  have H := Lib.hid hx
  obtain ⟨E, hE⟩ : ∃ E, rg x / 2 ^ 52 = E := ⟨_, rfl⟩
  have bE : E < 2047 := by rw [← hE]; exact (Nat.div_lt_iff_lt_mul (by decide)).2 hf
  rw [hE] at h1 h2
  have eE : (x : Int) / 4503599627370496 % 2048 = (E : Int) := by rw [← hE]; unfold rg; omega
  have bx : (x : Int) / 4503599627370496 < 4096 := by omega
  have bx0 : 0 ≤ (x : Int) / 4503599627370496 := by omega
  obtain ⟨A, B, q1, q2, q3⟩ := ldx_bits hx hE h1 h2
  have q4 : (bits .or .u64 (A : Int) ((k + ((E : Int) - 1023) + 1023) * 4503599627370496)).toNat = ldx x k := by
    rw [show k + ((E : Int) - 1023) + 1023 = E + k by omega, q2]; exact q3
  have Q4 := Lib.hid q4
  generalize ldx x k = L at *
  clear hE f1 f2 hf h0 f3 f4 hx q3 q2 q4
  have a1 : RowKit.wrap64 ((x : Int) / 4503599627370496) = (x : Int) / 4503599627370496 := w64 _ (by omega) (by omega)
  have a2 : bits .and .i64 ((x : Int) / 4503599627370496) 2047 = (E : Int) := by rw [i64_and2047, eE]
  have b1 : RowKit.wrap64 ((E : Int) - 1023) = E - 1023 := w64 _ (by omega) (by omega)
  have b2 : RowKit.wrap64 (k + ((E : Int) - 1023)) = k + (E - 1023) := w64 _ (by omega) (by omega)
  have b3 : RowKit.wrap64 k = k := w64 _ (by omega) (by omega)
  have b7 : RowKit.wrap64 (k + ((E : Int) - 1023) + 1023) = k + ((E : Int) - 1023) + 1023 := w64 _ (by omega) (by omega)
  have b8 : IntKind.u64.wrap (k + ((E : Int) - 1023) + 1023) = k + ((E : Int) - 1023) + 1023 := u64w _ (by omega) (by omega)
  have b9 : IntKind.u64.wrap ((k + ((E : Int) - 1023) + 1023) * 4503599627370496) = (k + ((E : Int) - 1023) + 1023) * 4503599627370496 := u64w _ (by omega) (by omega)
  have b4 : ¬ k + ((E : Int) - 1023) < -1075 := by omega
  have b5 : ¬ 1023 < k + ((E : Int) - 1023) := by omega
  have b6 : ¬ k + ((E : Int) - 1023) < -1022 := by omega
  clear eE bx bx0
  clear h1 h2 bE
  go_enter Tryz.func46, Tryz.ntmps46
  go_wp2_with (first | (go_at_call 7; refine (isInf0_any _ H.out _).mono ?_; rintro e w' ⟨rfl, rfl⟩; rw [n1]) | (go_at_call 74; refine (isNaN_any _ _).mono ?_; rintro e w' ⟨rfl, rfl⟩; rw [n2]) | (go_at_call 75; refine (N.out _).mono ?_; rintro e w' ⟨rfl, rfl⟩))
  go_ret
  refine ⟨ret_float ?_, _, rfl⟩
  rw [Q4.out]
  exact Res.eq (fop_mul _ _ _) M.out
/-- math.Ldexp -/
theorem ldexp_any (x : Nat) (k : Int) (hx : x < 2 ^ 64) (h0 : 2 ^ 52 ≤ rg x) (hf : rg x < INF) (h1 : 1 ≤ (rg x / 2 ^ 52 : Nat) + k) (h2 : (rg x / 2 ^ 52 : Nat) + k ≤ 2046) (w : World) :
    Calls Tryz.prog 13 #[.float .f64 x, .int .i64 k] w fun e w' => e = .returned (.float .f64 (ldx x k)) ∧ ∃ n, w' = w.drewN n := by
  have N := Lib.hid (ldexp_low x k hx h0 hf h1 h2)
  clear hx h0 hf h1 h2
  go_enter Tryz.func13, Tryz.ntmps13
  go_wp2_with (go_at_call 46; refine (N.out _).mono ?_; rintro e w' ⟨rfl, n, rfl⟩)
  go_ret
  exact ⟨rfl, _, rfl⟩
end Go.Proofs.YtokmommlabdcdaaGreatDoor
namespace Go.Proofs.YtokmommlabdcdaaGreatDoor
open Fl Go.RowKit
set_option linter.unusedVariables false
set_option linter.unusedSimpArgs false
theorem inf1_any (w : World) :
    Calls Tryz.prog 77 #[.int .i64 1] w fun e w' => e = .returned (.float .f64 9218868437227405312) ∧ w = w' := by
  have h4 := frombits_run
  go_enter Tryz.func77, Tryz.ntmps77
  go_wp2
  go_ret
  exact ⟨rfl, rfl⟩
theorem lt_zero {x : Nat} (nx : ¬ isNan x) (hs : sg x = false) : (FloatKind.f64.format.order x 0 == some Ordering.lt) = false := by
  have h : D.order x 0 = some (compare (iv x) (iv 0)) := order_num nx (by decide)
  have h2 : ¬ D.order x 0 = some Ordering.lt := by
    rw [h, iv_zero]
    intro c
    injection c with c
    rw [Int.compare_eq_lt] at c
    unfold iv at c
    rw [hs] at c
    simp at c
    omega
  exact beq_eq_false_iff_ne.2 h2
theorem ldexp_low_over (x : Nat) (k : Int) (hx : x < 2 ^ 64) (hs : sg x = false) (h0 : 2 ^ 52 ≤ rg x) (hf : rg x < INF) (h1 : 2047 ≤ (rg x / 2 ^ 52 : Nat) + k) (h2 : k ≤ 100000) (w : World) :
    Calls Tryz.prog 46 #[.float .f64 x, .int .i64 k] w fun e w' => e = .returned (.float .f64 INF) ∧ ∃ n, w' = w.drewN n := by
  have h3 := f64bits_run
  have h4 := frombits_run
  have n0 : (FloatKind.f64.format.order x 0 == some Ordering.eq) = false := by
    rw [order_zeroB]; unfold zeroB; exact decide_eq_false (by omega)
  have n1 : decide (rg x = INF) = false := decide_eq_false (by omega)
  have nn : ¬ isNan x := by unfold isNan; omega
  have n2 : decide (isNan x) = false := decide_eq_false nn
  have n3 := lt_zero nn hs
  have N := Lib.hid (normalize_norm x hx hf h0)
  have H := Lib.hid hx
  obtain ⟨E, hE⟩ : ∃ E, rg x / 2 ^ 52 = E := ⟨_, rfl⟩
  have bE : E < 2047 := by rw [← hE]; exact (Nat.div_lt_iff_lt_mul (by decide)).2 hf
  rw [hE] at h1
  have eE : (x : Int) / 4503599627370496 % 2048 = (E : Int) := by rw [← hE]; unfold rg; omega
  have bx : (x : Int) / 4503599627370496 < 4096 := by omega
  have bx0 : 0 ≤ (x : Int) / 4503599627370496 := by omega
  have a1 : RowKit.wrap64 ((x : Int) / 4503599627370496) = (x : Int) / 4503599627370496 := w64 _ (by omega) (by omega)
  have a2 : bits .and .i64 ((x : Int) / 4503599627370496) 2047 = (E : Int) := by rw [i64_and2047, eE]
  have b1 : RowKit.wrap64 ((E : Int) - 1023) = E - 1023 := w64 _ (by omega) (by omega)
  have b2 : RowKit.wrap64 (k + ((E : Int) - 1023)) = k + (E - 1023) := w64 _ (by omega) (by omega)
  have b3 : RowKit.wrap64 k = k := w64 _ (by omega) (by omega)
  have b4 : ¬ k + ((E : Int) - 1023) < -1075 := by omega
  have b5 : 1023 < k + ((E : Int) - 1023) := by omega
  clear eE bx bx0 hE nn hs hf h0 hx h1 h2 bE
  go_enter Tryz.func46, Tryz.ntmps46
  go_wp2_with (first | (go_at_call 7; refine (isInf0_any _ H.out _).mono ?_; rintro e w' ⟨rfl, rfl⟩; rw [n1]) | (go_at_call 74; refine (isNaN_any _ _).mono ?_; rintro e w' ⟨rfl, rfl⟩; rw [n2]) | (go_at_call 75; refine (N.out _).mono ?_; rintro e w' ⟨rfl, rfl⟩) | (go_at_call 77; refine (inf1_any _).mono ?_; rintro e w' ⟨rfl, rfl⟩))
  go_ret
  exact ⟨ret_float (by decide), 0, rfl⟩
theorem ldexp_low_den (x r : Nat) (k : Int) (hx : x < 2 ^ 64) (h0 : 2 ^ 52 ≤ rg x) (hf : rg x < INF) (h1 : (rg x / 2 ^ 52 : Nat) + k ≤ 0) (h2 : -51 ≤ (rg x / 2 ^ 52 : Nat) + k) (hr : D.mul 4368491638549381120 (ldx x (k + 53)) = some r) (w : World) :
    Calls Tryz.prog 46 #[.float .f64 x, .int .i64 k] w fun e w' => e = .returned (.float .f64 r) ∧ ∃ n, w' = w.drewN n := by
  have h3 := f64bits_run
  have h4 := frombits_run
  have n0 : (FloatKind.f64.format.order x 0 == some Ordering.eq) = false := by
    rw [order_zeroB]; unfold zeroB; exact decide_eq_false (by omega)
  have n1 : decide (rg x = INF) = false := decide_eq_false (by omega)
  have n2 : decide (isNan x) = false := decide_eq_false (by unfold isNan; omega)
  have N := Lib.hid (normalize_norm x hx hf h0)
  have M := Lib.hid hr
  have H := Lib.hid hx
  obtain ⟨E, hE⟩ : ∃ E, rg x / 2 ^ 52 = E := ⟨_, rfl⟩
  have bE : E < 2047 := by rw [← hE]; exact (Nat.div_lt_iff_lt_mul (by decide)).2 hf
  rw [hE] at h1 h2
  have eE : (x : Int) / 4503599627370496 % 2048 = (E : Int) := by rw [← hE]; unfold rg; omega
  have bx : (x : Int) / 4503599627370496 < 4096 := by omega
  have bx0 : 0 ≤ (x : Int) / 4503599627370496 := by omega
  obtain ⟨A, B, q1, q2, q3⟩ := ldx_bits (k := k + 53) hx hE (by omega) (by omega)
  have q4 : (bits .or .u64 (A : Int) ((k + ((E : Int) - 1023) + 53 + 1023) * 4503599627370496)).toNat = ldx x (k + 53) := by
    rw [show k + ((E : Int) - 1023) + 53 + 1023 = E + (k + 53) by omega, q2]; exact q3
  have Q4 := Lib.hid q4
  generalize ldx x (k + 53) = L at *
  clear hE hf h0 hx q3 q2 q4 hr
  have a1 : RowKit.wrap64 ((x : Int) / 4503599627370496) = (x : Int) / 4503599627370496 := w64 _ (by omega) (by omega)
  have a2 : bits .and .i64 ((x : Int) / 4503599627370496) 2047 = (E : Int) := by rw [i64_and2047, eE]
  have b1 : RowKit.wrap64 ((E : Int) - 1023) = E - 1023 := w64 _ (by omega) (by omega)
  have b2 : RowKit.wrap64 (k + ((E : Int) - 1023)) = k + (E - 1023) := w64 _ (by omega) (by omega)
  have b3 : RowKit.wrap64 k = k := w64 _ (by omega) (by omega)
  have b10 : RowKit.wrap64 (k + ((E : Int) - 1023) + 53) = k + ((E : Int) - 1023) + 53 := w64 _ (by omega) (by omega)
  have b7 : RowKit.wrap64 (k + ((E : Int) - 1023) + 53 + 1023) = k + ((E : Int) - 1023) + 53 + 1023 := w64 _ (by omega) (by omega)
  have b8 : IntKind.u64.wrap (k + ((E : Int) - 1023) + 53 + 1023) = k + ((E : Int) - 1023) + 53 + 1023 := u64w _ (by omega) (by omega)
  have b9 : IntKind.u64.wrap ((k + ((E : Int) - 1023) + 53 + 1023) * 4503599627370496) = (k + ((E : Int) - 1023) + 53 + 1023) * 4503599627370496 := u64w _ (by omega) (by omega)
  have b4 : ¬ k + ((E : Int) - 1023) < -1075 := by omega
  have b5 : ¬ 1023 < k + ((E : Int) - 1023) := by omega
  have b6 : k + ((E : Int) - 1023) < -1022 := by omega
  clear eE bx bx0
  clear h1 h2 bE
  go_enter Tryz.func46, Tryz.ntmps46
  go_wp2_with (first | (go_at_call 7; refine (isInf0_any _ H.out _).mono ?_; rintro e w' ⟨rfl, rfl⟩; rw [n1]) | (go_at_call 74; refine (isNaN_any _ _).mono ?_; rintro e w' ⟨rfl, rfl⟩; rw [n2]) | (go_at_call 75; refine (N.out _).mono ?_; rintro e w' ⟨rfl, rfl⟩))
  go_ret
  refine ⟨ret_float ?_, _, rfl⟩
  rw [Q4.out]
  exact Res.eq (fop_mul _ _ _) M.out
theorem ldexp_zero (k : Int) (w : World) :
    Calls Tryz.prog 46 #[.float .f64 0, .int .i64 k] w fun e w' => e = .returned (.float .f64 0) ∧ ∃ n, w' = w.drewN n := by
  have n0 : (FloatKind.f64.format.order 0 0 == some Ordering.eq) = true := by decide
  go_enter Tryz.func46, Tryz.ntmps46
  go_wp2
  go_ret
  exact ⟨rfl, 0, rfl⟩
/-- math.Ldexp of a whole number -/
theorem ldexp_int (m : Nat) (K : Int) (hm : m ≤ 2 ^ 53) (hK : -1074 ≤ K) (hK2 : K ≤ 20000) (hc : K = -1074 ∨ 2 ^ 52 ≤ m) (w : World) :
    Calls Tryz.prog 13 #[.float .f64 (Go.floatOfInt .f64 (m : Int)), .int .i64 K] w fun e w' => e = .returned (.float .f64 (wd false (ldR m K))) ∧ ∃ n, w' = w.drewN n := by
  have low : ∀ w : World, Calls Tryz.prog 46 #[.float .f64 (Go.floatOfInt .f64 (m : Int)), .int .i64 K] w fun e w' => e = .returned (.float .f64 (wd false (ldR m K))) ∧ ∃ n, w' = w.drewN n := by
    intro w
    by_cases m0 : m = 0
    · subst m0
      have e1 : Go.floatOfInt .f64 ((0 : Nat) : Int) = 0 := by decide
      have e2 : wd false (ldR 0 K) = 0 := by
        rcases hc with rfl | hc
        · decide
        · omega
      rw [e1, e2]
      exact ldexp_zero K w
    · obtain ⟨L, k, hx, hs, hr, hk1, hk2, hv, hL1, hL2⟩ := word_form (m := m) (by omega) hm
      generalize Go.floatOfInt .f64 (m : Int) = x at *
      have hE : rg x / 2 ^ 52 = L + 1 := by omega
      have hf : rg x < INF := by unfold INF; omega
      have h0 : 2 ^ 52 ≤ rg x := by omega
      by_cases c1 : (L : Int) + K < 0
      · exact ldexp_low_den x _ K hx h0 hf (by rw [hE]; omega) (by rw [hE]; omega) (ld_den hm hr hs hk1 hk2 hv hL1 hK hc c1) w
      · by_cases c2 : (L : Int) + K ≤ 2045
        · rw [← ld_mid hm hr hs hk1 hk2 hv hK hc (by omega) c2]
          exact ldexp_low x K hx h0 hf (by rw [hE]; omega) (by rw [hE]; omega) w
        · rw [ld_over hm hk1 hv hL2 (by omega)]
          exact ldexp_low_over x K hx hs h0 hf (by rw [hE]; omega) (by omega) w
  have N := Lib.hid low
  clear low hm hK hK2 hc
  go_enter Tryz.func13, Tryz.ntmps13
  go_wp2_with (go_at_call 46; refine (N.out _).mono ?_; rintro e w' ⟨rfl, n, rfl⟩)
  go_ret
  exact ⟨rfl, _, rfl⟩
end Go.Proofs.YtokmommlabdcdaaGreatDoor
