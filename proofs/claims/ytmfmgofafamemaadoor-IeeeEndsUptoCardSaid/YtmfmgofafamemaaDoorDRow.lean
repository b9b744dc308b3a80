/- Contracts of package ieee's functions on the row of all floats: Order, Next, Prev, Min; the world is as it was. -/
import Derived.Test.YtmfmgofafamemaaDoorDIeee
import Derived.Test.YtmfmgofafamemaaDoorFlPl
namespace Go.Proofs.YtmfmgofafamemaaDoor
open Fl
theorem placeT_any (x : Nat) (hx : x < 2 ^ 64) (w : World) :
    Calls Tryd.prog 22 #[.float .f64 x] w fun e w' => e = .returned (.int .i64 (plT x)) ∧ w = w' := by
  by_cases h : isNan x
  · rw [plT_nan h]; exact place_nan x hx h w
  · rw [plT_num h]; exact place_any x hx h w
/-- ieee.Order -/
theorem order_any (x y : Nat) (hx : x < 2 ^ 64) (hy : y < 2 ^ 64) (w : World) :
    Calls Tryd.prog 8 #[.float .f64 x, .float .f64 y] w fun e w' => e = .returned (.int .i64 (ordI x y)) ∧ w = w' := by
  have H := Lib.hid hx; have H' := Lib.hid hy; clear hx hy
  by_cases c : plT x < plT y
  · have e : ordI x y = -1 := by unfold ordI; rw [if_pos c]
    rw [e]; clear e
    go_enter Tryd.func8, Tryd.ntmps8
    go_wp2_with (first | (go_at_call 22; (with_reducible refine (placeT_any _ H.out _).mono ?_); rintro e w' ⟨rfl, rfl⟩) | (go_at_call 22; (with_reducible refine (placeT_any _ H'.out _).mono ?_); rintro e w' ⟨rfl, rfl⟩))
    go_ret
    exact ⟨rfl, rfl⟩
  · by_cases d : plT y < plT x
    · have e : ordI x y = 1 := by unfold ordI; rw [if_neg c, if_pos d]
      rw [e]; clear e
      go_enter Tryd.func8, Tryd.ntmps8
      go_wp2_with (first | (go_at_call 22; (with_reducible refine (placeT_any _ H.out _).mono ?_); rintro e w' ⟨rfl, rfl⟩) | (go_at_call 22; (with_reducible refine (placeT_any _ H'.out _).mono ?_); rintro e w' ⟨rfl, rfl⟩))
      go_ret
      exact ⟨rfl, rfl⟩
    · have e : ordI x y = 0 := by unfold ordI; rw [if_neg c, if_neg d]
      rw [e]; clear e
      go_enter Tryd.func8, Tryd.ntmps8
      go_wp2_with (first | (go_at_call 22; (with_reducible refine (placeT_any _ H.out _).mono ?_); rintro e w' ⟨rfl, rfl⟩) | (go_at_call 22; (with_reducible refine (placeT_any _ H'.out _).mono ?_); rintro e w' ⟨rfl, rfl⟩))
      go_ret
      exact ⟨rfl, rfl⟩
theorem at_eq (x : Nat) (p : Int) (hx : x < 2 ^ 64) (hp : p = pl x) (w : World) :
    Calls Tryd.prog 28 #[.int .i64 p] w fun e w' => e = .returned (.float .f64 x) ∧ w = w' := by
  subst hp; exact at_any x hx w
/-- ieee.Next -/
theorem next_any (x : Nat) (hx : x < 2 ^ 64) (w : World) :
    Calls Tryd.prog 14 #[.float .f64 x] w fun e w' => e = .returned (.float .f64 (nxt x)) ∧ w = w' := by
  by_cases nx : isNan x
  · rw [nxt_nan nx]
    have H := Lib.hid hx; have Hn := Lib.hid nx; clear hx nx
    go_enter Tryd.func14, Tryd.ntmps14
    go_wp2_with (go_at_call 23; refine (none_yes _ H.out Hn.out _).mono ?_; rintro e w' ⟨rfl, rfl⟩)
    go_ret
    exact ⟨rfl, rfl⟩
  · by_cases c : pl x = 9218868437227405312
    · rw [nxt_end c]
      have C := Lib.hid c; have H := Lib.hid hx; have Hn := Lib.hid nx; clear hx nx
      generalize pl x = p at C
      go_enter Tryd.func14, Tryd.ntmps14
      go_wp2_with (first | (go_at_call 23; refine (none_no _ H.out Hn.out _).mono ?_; rintro e w' ⟨rfl, rfl⟩) | (go_at_call 22; (with_reducible refine (place_any _ H.out Hn.out _).mono ?_); rintro e w' ⟨rfl, rfl⟩))
      go_ret
      exact ⟨rfl, rfl⟩
    · have b := pl_num nx
      obtain ⟨n1, n2, _⟩ := nxt_num nx c
      have e : RowKit.wrap64 (pl x + 1) = pl (nxt x) := by rw [n2]; exact w64 _ (by omega) (by omega)
      have E := Lib.hid e; have N := Lib.hid n1; have H := Lib.hid hx; have Hn := Lib.hid nx; clear hx nx e n1 n2 b
      go_enter Tryd.func14, Tryd.ntmps14
      go_wp2_with (first | (go_at_call 23; refine (none_no _ H.out Hn.out _).mono ?_; rintro e w' ⟨rfl, rfl⟩) | (go_at_call 22; (with_reducible refine (place_any _ H.out Hn.out _).mono ?_); rintro e w' ⟨rfl, rfl⟩) | (go_at_call 28; (with_reducible refine (at_eq _ _ N.out E.out _).mono ?_); rintro e w' ⟨rfl, rfl⟩))
      go_ret
      exact ⟨rfl, rfl⟩
/-- ieee.Prev -/
theorem prev_any (x : Nat) (hx : x < 2 ^ 64) (w : World) :
    Calls Tryd.prog 15 #[.float .f64 x] w fun e w' => e = .returned (.float .f64 (prv x)) ∧ w = w' := by
  by_cases nx : isNan x
  · rw [prv_nan nx]
    have H := Lib.hid hx; have Hn := Lib.hid nx; clear hx nx
    go_enter Tryd.func15, Tryd.ntmps15
    go_wp2_with (go_at_call 23; refine (none_yes _ H.out Hn.out _).mono ?_; rintro e w' ⟨rfl, rfl⟩)
    go_ret
    exact ⟨rfl, rfl⟩
  · by_cases c : pl x = -9218868437227405313
    · rw [prv_end c]
      have C := Lib.hid c; have H := Lib.hid hx; have Hn := Lib.hid nx; clear hx nx
      go_enter Tryd.func15, Tryd.ntmps15
      go_wp2_with (first | (go_at_call 23; refine (none_no _ H.out Hn.out _).mono ?_; rintro e w' ⟨rfl, rfl⟩) | (go_at_call 22; (with_reducible refine (place_any _ H.out Hn.out _).mono ?_); rintro e w' ⟨rfl, rfl⟩))
      go_ret
      exact ⟨rfl, rfl⟩
    · have b := pl_num nx
      obtain ⟨n1, n2, _⟩ := prv_num nx c
      have e : RowKit.wrap64 (pl x - 1) = pl (prv x) := by rw [n2]; exact w64 _ (by omega) (by omega)
      have E := Lib.hid e; have N := Lib.hid n1; have H := Lib.hid hx; have Hn := Lib.hid nx; clear hx nx e n1 n2 b
      go_enter Tryd.func15, Tryd.ntmps15
      go_wp2_with (first | (go_at_call 23; refine (none_no _ H.out Hn.out _).mono ?_; rintro e w' ⟨rfl, rfl⟩) | (go_at_call 22; (with_reducible refine (place_any _ H.out Hn.out _).mono ?_); rintro e w' ⟨rfl, rfl⟩) | (go_at_call 28; (with_reducible refine (at_eq _ _ N.out E.out _).mono ?_); rintro e w' ⟨rfl, rfl⟩))
      go_ret
      exact ⟨rfl, rfl⟩
/-- ieee.Min -/
theorem min_any (x y : Nat) (hx : x < 2 ^ 64) (hy : y < 2 ^ 64) (w : World) :
    Calls Tryd.prog 11 #[.float .f64 x, .float .f64 y] w fun e w' => e = .returned (.float .f64 (fmin x y)) ∧ w = w' := by
  have h2 := frombits_run
  by_cases nx : isNan x
  · have e : fmin x y = NANQ := fmin_nan (.inl nx)
    rw [e]
    have H := Lib.hid hx; have Hn := Lib.hid nx; clear hx nx e hy
    go_enter Tryd.func11, Tryd.ntmps11
    go_wp2_with (go_at_call 23; refine (none_yes _ H.out Hn.out _).mono ?_; rintro e w' ⟨rfl, rfl⟩)
    go_ret
    exact ⟨rfl, rfl⟩
  · by_cases ny : isNan y
    · have e : fmin x y = NANQ := fmin_nan (.inr ny)
      rw [e]
      have H := Lib.hid hx; have Hn := Lib.hid nx; have H' := Lib.hid hy; have Hn' := Lib.hid ny; clear hx nx e hy ny
      go_enter Tryd.func11, Tryd.ntmps11
      go_wp2_with (first | (go_at_call 23; (with_reducible refine (none_no _ H.out Hn.out _).mono ?_); rintro e w' ⟨rfl, rfl⟩) | (go_at_call 23; (with_reducible refine (none_yes _ H'.out Hn'.out _).mono ?_); rintro e w' ⟨rfl, rfl⟩))
      go_ret
      exact ⟨rfl, rfl⟩
    · have f1 := fmin_l hx hy nx ny
      have f2 := fmin_r (x := x) (y := y) nx ny
      have H := Lib.hid hx; have Hn := Lib.hid nx; have H' := Lib.hid hy; have Hn' := Lib.hid ny; have F1 := Lib.hid f1; have F2 := Lib.hid f2; clear hx nx hy ny f1 f2
      go_enter Tryd.func11, Tryd.ntmps11
      go_wp2_with (first | (go_at_call 23; (with_reducible refine (none_no _ H.out Hn.out _).mono ?_); rintro e w' ⟨rfl, rfl⟩) | (go_at_call 23; (with_reducible refine (none_no _ H'.out Hn'.out _).mono ?_); rintro e w' ⟨rfl, rfl⟩) | (go_at_call 22; (with_reducible refine (place_any _ H.out Hn.out _).mono ?_); rintro e w' ⟨rfl, rfl⟩) | (go_at_call 22; (with_reducible refine (place_any _ H'.out Hn'.out _).mono ?_); rintro e w' ⟨rfl, rfl⟩) | (go_at_call 28; (with_reducible refine (at_any _ H.out _).mono ?_); rintro e w' ⟨rfl, rfl⟩) | (go_at_call 28; (with_reducible refine (at_any _ H'.out _).mono ?_); rintro e w' ⟨rfl, rfl⟩))
      all_goals go_ret
      all_goals first | exact ⟨ret_float (F1.out (by omega)).symm, rfl⟩ | exact ⟨ret_float (F2.out (by omega)).symm, rfl⟩
end Go.Proofs.YtmfmgofafamemaaDoor
