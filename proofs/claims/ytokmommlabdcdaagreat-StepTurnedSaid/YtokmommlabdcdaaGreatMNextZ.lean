/- Contracts of package ieee's functions on the row of all floats: Order, Next, Prev, Min; the world is as it was. -/
import Derived.Test.YtokmommlabdcdaaGreatMCpx
import Derived.Test.YtokmommlabdcdaaGreatMFlRel
set_option linter.unusedVariables false
set_option linter.unusedSimpArgs false
namespace Go.Proofs.YtokmommlabdcdaaGreat
open Fl
theorem placeT_any (x : Nat) (hx : x < 2 ^ 64) (w : World) :
    Calls Tryz.prog 96 #[.float .f64 x] w fun e w' => e = .returned (.int .i64 (plT x)) ∧ w = w' := by
  by_cases h : isNan x
  · rw [plT_nan h]; exact place_nan x hx h w
  · rw [plT_num h]; exact ieplace_any x hx h w
theorem at_eq (x : Nat) (p : Int) (hx : x < 2 ^ 64) (hp : p = pl x) (w : World) :
    Calls Tryz.prog 95 #[.int .i64 p] w fun e w' => e = .returned (.float .f64 x) ∧ w = w' := by
  subst hp; exact at_any x hx w
/-- ieee.Next -/
theorem next_any (x : Nat) (hx : x < 2 ^ 64) (w : World) :
    Calls Tryz.prog 132 #[.float .f64 x] w fun e w' => e = .returned (.float .f64 (nxt x)) ∧ w = w' := by
  by_cases nx : isNan x
  · rw [nxt_nan nx]
    have H := Lib.hid hx; have Hn := Lib.hid nx; clear hx nx
    go_enter Tryz.func132, Tryz.ntmps132
    go_wp2_with (go_at_call 94; refine (none_yes _ H.out Hn.out _).mono ?_; rintro e w' ⟨rfl, rfl⟩)
    go_ret
    exact ⟨rfl, rfl⟩
  · by_cases c : pl x = 9218868437227405312
    · rw [nxt_end c]
      have C := Lib.hid c; have H := Lib.hid hx; have Hn := Lib.hid nx; clear hx nx
      generalize pl x = p at C
      go_enter Tryz.func132, Tryz.ntmps132
      go_wp2_with (first | (go_at_call 94; refine (none_no _ H.out Hn.out _).mono ?_; rintro e w' ⟨rfl, rfl⟩) | (go_at_call 96; (with_reducible refine (ieplace_any _ H.out Hn.out _).mono ?_); rintro e w' ⟨rfl, rfl⟩))
      go_ret
      exact ⟨rfl, rfl⟩
    · have b := pl_num nx
      obtain ⟨n1, n2, _⟩ := nxt_num nx c
      have e : RowKit.wrap64 (pl x + 1) = pl (nxt x) := by rw [n2]; exact w64 _ (by omega) (by omega)
      have E := Lib.hid e; have N := Lib.hid n1; have H := Lib.hid hx; have Hn := Lib.hid nx; clear hx nx e n1 n2 b
      go_enter Tryz.func132, Tryz.ntmps132
      go_wp2_with (first | (go_at_call 94; refine (none_no _ H.out Hn.out _).mono ?_; rintro e w' ⟨rfl, rfl⟩) | (go_at_call 96; (with_reducible refine (ieplace_any _ H.out Hn.out _).mono ?_); rintro e w' ⟨rfl, rfl⟩) | (go_at_call 95; (with_reducible refine (at_eq _ _ N.out E.out _).mono ?_); rintro e w' ⟨rfl, rfl⟩))
      go_ret
      exact ⟨rfl, rfl⟩
end Go.Proofs.YtokmommlabdcdaaGreat
