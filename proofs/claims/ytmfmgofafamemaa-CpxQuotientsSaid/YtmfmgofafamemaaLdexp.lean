/- Contract of math.Ldexp where nothing is small: the exponent's field moves. -/
import Derived.Test.YtmfmgofafamemaaMathF
import Derived.Test.YtmfmgofafamemaaFlLd
namespace Go.Proofs.Ytmfmgofafamemaa
open Fl Go.RowKit
theorem ldexp_low (x : Nat) (k : Int) (hx : x < 2 ^ 64) (h0 : 2 ^ 52 ≤ rg x) (hf : rg x < INF) (h1 : 1 ≤ (rg x / 2 ^ 52 : Nat) + k) (h2 : (rg x / 2 ^ 52 : Nat) + k ≤ 2046) (w : World) :
    Calls Try.prog 35 #[.float .f64 x, .int .i64 k] w fun e w' => e = .returned (.float .f64 (ldx x k)) ∧ ∃ n, w' = w.drewN n := by
  have h3 := f64bits_run
  have h4 := frombits_run
  have n0 : (FloatKind.f64.format.order x 0 == some Ordering.eq) = false := by
    rw [order_zeroB]; unfold zeroB; exact decide_eq_false (by omega)
  have n1 : decide (rg x = INF) = false := decide_eq_false (by omega)
  have n2 : decide (isNan x) = false := decide_eq_false (by unfold isNan; omega)
  have N := Lib.hid (normalize_norm x hx hf h0)
  obtain ⟨f1, f2, f3, f4⟩ := ldx_facts h1 h2
  have M := Lib.hid (mul_one' f4 f3)
  have H := Lib.hid hx
  obtain ⟨E, hE⟩ : ∃ E, rg x / 2 ^ 52 = E := ⟨_, rfl⟩
  have bE : E < 2047 := by rw [← hE]; exact (Nat.div_lt_iff_lt_mul (by decide)).2 hf
  rw [hE] at h1 h2
  have eE : (x : Int) / 4503599627370496 % 2048 = (E : Int) := by rw [← hE]; unfold rg; omega
  have bx : (x : Int) / 4503599627370496 < 4096 := by omega
  have bx0 : 0 ≤ (x : Int) / 4503599627370496 := by omega
  obtain ⟨A, B, q1, q2, q3⟩ := ldx_bits hx hE h1 h2
  have q4 : (bits .or .u64 (A : Int) ((k + ((E : Int) - 1023) + 1023) * 4503599627370496)).toNat = ldx x k := by
    rw [show k + ((E : Int) - 1023) + 1023 = E + k by omega, q2]; exact q3
  have Q4 := Lib.hid q4
  generalize ldx x k = L at *
  clear hE f1 f2 hf h0 f3 f4 hx q3 q2 q4
  have a1 : RowKit.wrap64 ((x : Int) / 4503599627370496) = (x : Int) / 4503599627370496 := w64 _ (by omega) (by omega)
  have a2 : bits .and .i64 ((x : Int) / 4503599627370496) 2047 = (E : Int) := by rw [i64_and2047, eE]
  have b1 : RowKit.wrap64 ((E : Int) - 1023) = E - 1023 := w64 _ (by omega) (by omega)
  have b2 : RowKit.wrap64 (k + ((E : Int) - 1023)) = k + (E - 1023) := w64 _ (by omega) (by omega)
  have b3 : RowKit.wrap64 k = k := w64 _ (by omega) (by omega)
  have b7 : RowKit.wrap64 (k + ((E : Int) - 1023) + 1023) = k + ((E : Int) - 1023) + 1023 := w64 _ (by omega) (by omega)
  have b8 : IntKind.u64.wrap (k + ((E : Int) - 1023) + 1023) = k + ((E : Int) - 1023) + 1023 := u64w _ (by omega) (by omega)
  have b9 : IntKind.u64.wrap ((k + ((E : Int) - 1023) + 1023) * 4503599627370496) = (k + ((E : Int) - 1023) + 1023) * 4503599627370496 := u64w _ (by omega) (by omega)
  have b4 : ¬ k + ((E : Int) - 1023) < -1075 := by omega
  have b5 : ¬ 1023 < k + ((E : Int) - 1023) := by omega
  have b6 : ¬ k + ((E : Int) - 1023) < -1022 := by omega
  clear eE bx bx0
  clear h1 h2 bE
  go_enter Try.func35, Try.ntmps35
  go_wp2_with (first | (go_at_call 49; refine (isInf0_any _ H.out _).mono ?_; rintro e w' ⟨rfl, rfl⟩; rw [n1]) | (go_at_call 51; refine (isNaN_any _ _).mono ?_; rintro e w' ⟨rfl, rfl⟩; rw [n2]) | (go_at_call 52; refine (N.out _).mono ?_; rintro e w' ⟨rfl, rfl⟩))
  go_ret
  refine ⟨ret_float ?_, _, rfl⟩
  rw [Q4.out]
  exact Res.eq (fop_mul _ _ _) M.out
/-- math.Ldexp -/
theorem ldexp_any (x : Nat) (k : Int) (hx : x < 2 ^ 64) (h0 : 2 ^ 52 ≤ rg x) (hf : rg x < INF) (h1 : 1 ≤ (rg x / 2 ^ 52 : Nat) + k) (h2 : (rg x / 2 ^ 52 : Nat) + k ≤ 2046) (w : World) :
    Calls Try.prog 11 #[.float .f64 x, .int .i64 k] w fun e w' => e = .returned (.float .f64 (ldx x k)) ∧ ∃ n, w' = w.drewN n := by
  have N := Lib.hid (ldexp_low x k hx h0 hf h1 h2)
  clear hx h0 hf h1 h2
  go_enter Try.func11, Try.ntmps11
  go_wp2_with (go_at_call 35; refine (N.out _).mono ?_; rintro e w' ⟨rfl, n, rfl⟩)
  go_ret
  exact ⟨rfl, _, rfl⟩
end Go.Proofs.Ytmfmgofafamemaa
