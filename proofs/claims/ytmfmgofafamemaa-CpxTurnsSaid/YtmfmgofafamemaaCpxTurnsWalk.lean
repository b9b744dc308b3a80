/- The walk of CpxTurns: of any two complex numbers the law answers true. -/
import Derived.Test.YtmfmgofafamemaaCpxAwake
namespace Go.Proofs.Ytmfmgofafamemaa
open Fl Go.RowKit

theorem like_true (a b c d : Nat) (h1 : Lk a c) (h2 : Lk b d) (w : World) :
    Calls Try.prog 21 #[.complex .f64 a b, .complex .f64 c d] w fun e w' => e = .returned (.bool true) ∧ w = w' := by
  have z1 : sameB a c = true ∨ (sameB a c = false ∧ (FloatKind.f64.format.order a 0 == some Ordering.eq) = true ∧ (FloatKind.f64.format.order c 0 == some Ordering.eq) = true) := by
    cases hs : sameB a c
    · rcases h1 with h | h
      · rw [sameB_true h] at hs; cases hs
      · right; rw [order_zeroB, order_zeroB]; exact ⟨rfl, decide_eq_true h.1, decide_eq_true h.2⟩
    · exact .inl rfl
  have z2 : sameB b d = true ∨ (sameB b d = false ∧ (FloatKind.f64.format.order b 0 == some Ordering.eq) = true ∧ (FloatKind.f64.format.order d 0 == some Ordering.eq) = true) := by
    cases hs : sameB b d
    · rcases h2 with h | h
      · rw [sameB_true h] at hs; cases hs
      · right; rw [order_zeroB, order_zeroB]; exact ⟨rfl, decide_eq_true h.1, decide_eq_true h.2⟩
    · exact .inl rfl
  clear h1 h2
  rcases z1 with z1 | ⟨z1, z3, z4⟩ <;> rcases z2 with z2 | ⟨z2, z5, z6⟩
  all_goals
    go_enter Try.func21, Try.ntmps21
    go_wp2_with (go_at_call 28; refine (sameF_any _ _ _).mono ?_; rintro e w' ⟨rfl, rfl⟩)
    go_ret
    exact ⟨rfl, rfl⟩

set_option maxHeartbeats 2000000 in
set_option maxRecDepth 100000 in
theorem cpxTurns_walk (a b c d : Nat) (ha : a < 2 ^ 64) (hb : b < 2 ^ 64) (hc : c < 2 ^ 64) (hd : d < 2 ^ 64) (w : World) :
    Calls Try.prog 5 #[.agg #[.int .u64 a, .int .u64 b], .agg #[.int .u64 c, .int .u64 d]] w fun e w' => e = .returned (.bool true) ∧ Below w.heap.size w w' := by
  have Ha := Lib.hid ha; have Hb := Lib.hid hb; have Hc := Lib.hid hc; have Hd := Lib.hid hd; clear ha hb hc hd
  go_enter Try.func5, Try.ntmps5
  go_wp2_with (go_at_call 15; refine (c_any _ _ _).mono ?_; rintro e w' ⟨rfl, rfl⟩)
  refine (add_any a b c d _).mono ?_
  rintro e w' ⟨x1, y1, nx1, A1, rfl, rfl⟩
  go_wp2_with fail
  refine (add_any c d a b _).mono ?_
  rintro e w' ⟨x2, y2, nx2, A2, rfl, rfl⟩
  go_wp2_with fail
  refine (sameC_any _ _ _ _ _).mono ?_
  rintro e w' ⟨rfl, rfl⟩
  rw [A1.comm A2]
  go_wp2_with fail
  refine (mul_any a b c d _).mono ?_
  rintro e w' ⟨x3, y3, nx3, M1, rfl, rfl⟩
  go_wp2_with fail
  refine (mul_any c d a b _).mono ?_
  rintro e w' ⟨x4, y4, nx4, M2, rfl, rfl⟩
  go_wp2_with fail
  refine (sameC_any _ _ _ _ _).mono ?_
  rintro e w' ⟨rfl, rfl⟩
  rw [M1.comm M2]
  go_wp2_with fail
  refine (sub_any a b c d _).mono ?_
  rintro e w' ⟨x5, y5, nx5, S1, rfl, rfl⟩
  go_wp2_with fail
  refine (neg_any c d Hc.out Hd.out _).mono ?_
  rintro e w' ⟨rfl, rfl⟩
  go_wp2_with fail
  refine (add_any a b _ _ _).mono ?_
  rintro e w' ⟨x6, y6, nx6, A3, rfl, rfl⟩
  go_wp2_with fail
  refine (sameC_any _ _ _ _ _).mono ?_
  rintro e w' ⟨rfl, rfl⟩
  rw [S1.addNeg Hc.out Hd.out A3]
  go_wp2_with fail
  refine (neg_any a b Ha.out Hb.out _).mono ?_
  rintro e w' ⟨rfl, rfl⟩
  go_wp2_with fail
  refine (neg_any _ _ (neg_lt a Ha.out) (neg_lt b Hb.out) _).mono ?_
  rintro e w' ⟨rfl, rfl⟩
  go_wp2_with fail
  refine (sameC_any _ _ _ _ _).mono ?_
  rintro e w' ⟨rfl, rfl⟩
  rw [sameCB_true (.inl (neg_neg a Ha.out)) (.inl (neg_neg b Hb.out))]
  go_wp2_with fail
  refine (conj_any a b Hb.out _).mono ?_
  rintro e w' ⟨rfl, rfl⟩
  go_wp2_with fail
  refine (conj_any _ _ (neg_lt b Hb.out) _).mono ?_
  rintro e w' ⟨rfl, rfl⟩
  go_wp2_with fail
  refine (sameC_any _ _ _ _ _).mono ?_
  rintro e w' ⟨rfl, rfl⟩
  rw [sameCB_true (Same.refl a) (.inl (neg_neg b Hb.out))]
  go_wp2_with fail
  refine (conj_any a b Hb.out _).mono ?_
  rintro e w' ⟨rfl, rfl⟩
  go_wp2_with fail
  refine (neg_any _ _ Ha.out (neg_lt b Hb.out) _).mono ?_
  rintro e w' ⟨rfl, rfl⟩
  go_wp2_with fail
  refine (neg_any a b Ha.out Hb.out _).mono ?_
  rintro e w' ⟨rfl, rfl⟩
  go_wp2_with fail
  refine (conj_any _ _ (neg_lt b Hb.out) _).mono ?_
  rintro e w' ⟨rfl, rfl⟩
  go_wp2_with fail
  refine (sameC_any _ _ _ _ _).mono ?_
  rintro e w' ⟨rfl, rfl⟩
  rw [sameCB_true (Same.refl _) (Same.refl _)]
  go_wp2_with fail
  refine (add_any a b c d _).mono ?_
  rintro e w' ⟨x7, y7, nx7, A4, rfl, rfl⟩
  go_wp2_with fail
  refine (conj_any _ _ A4.2.lt _).mono ?_
  rintro e w' ⟨rfl, rfl⟩
  go_wp2_with fail
  refine (conj_any a b Hb.out _).mono ?_
  rintro e w' ⟨rfl, rfl⟩
  go_wp2_with fail
  refine (conj_any c d Hd.out _).mono ?_
  rintro e w' ⟨rfl, rfl⟩
  go_wp2_with fail
  refine (add_any _ _ _ _ _).mono ?_
  rintro e w' ⟨x8, y8, nx8, A5, rfl, rfl⟩
  go_wp2_with fail
  refine (like_true _ _ _ _ (A4.conj Hb.out Hd.out A5).1 (A4.conj Hb.out Hd.out A5).2 _).mono ?_
  rintro e w' ⟨rfl, rfl⟩
  go_wp2_with fail
  refine (sub_any a b c d _).mono ?_
  rintro e w' ⟨x9, y9, nx9, S4, rfl, rfl⟩
  go_wp2_with fail
  refine (conj_any _ _ S4.2.lt _).mono ?_
  rintro e w' ⟨rfl, rfl⟩
  go_wp2_with fail
  refine (conj_any a b Hb.out _).mono ?_
  rintro e w' ⟨rfl, rfl⟩
  go_wp2_with fail
  refine (conj_any c d Hd.out _).mono ?_
  rintro e w' ⟨rfl, rfl⟩
  go_wp2_with fail
  refine (sub_any _ _ _ _ _).mono ?_
  rintro e w' ⟨x10, y10, nx10, S5, rfl, rfl⟩
  go_wp2_with fail
  refine (like_true _ _ _ _ (S4.conj Hb.out Hd.out S5).1 (S4.conj Hb.out Hd.out S5).2 _).mono ?_
  rintro e w' ⟨rfl, rfl⟩
  go_wp2_with fail
  refine (mul_any a b c d _).mono ?_
  rintro e w' ⟨x11, y11, nx11, M4, rfl, rfl⟩
  go_wp2_with fail
  refine (conj_any _ _ M4.lt.2 _).mono ?_
  rintro e w' ⟨rfl, rfl⟩
  go_wp2_with fail
  refine (conj_any a b Hb.out _).mono ?_
  rintro e w' ⟨rfl, rfl⟩
  go_wp2_with fail
  refine (conj_any c d Hd.out _).mono ?_
  rintro e w' ⟨rfl, rfl⟩
  go_wp2_with fail
  refine (mul_any _ _ _ _ _).mono ?_
  rintro e w' ⟨x12, y12, nx12, M5, rfl, rfl⟩
  go_wp2_with fail
  refine (like_true _ _ _ _ (M4.conj Hb.out Hd.out M5).1 (M4.conj Hb.out Hd.out M5).2 _).mono ?_
  rintro e w' ⟨rfl, rfl⟩
  go_wp2_with fail
  refine (neg_any _ _ M4.lt.1 M4.lt.2 _).mono ?_
  rintro e w' ⟨rfl, rfl⟩
  go_wp2_with fail
  refine (neg_any a b Ha.out Hb.out _).mono ?_
  rintro e w' ⟨rfl, rfl⟩
  go_wp2_with fail
  refine (mul_any _ _ _ _ _).mono ?_
  rintro e w' ⟨x13, y13, nx13, M6, rfl, rfl⟩
  go_wp2_with fail
  refine (like_true _ _ _ _ (M4.negL Ha.out Hb.out M6).1 (M4.negL Ha.out Hb.out M6).2 _).mono ?_
  rintro e w' ⟨rfl, rfl⟩
  go_wp2_with fail
  refine (CpxAwake.awake_any _).mono ?_
  rintro e w' ⟨rfl, hb⟩
  have HB := Lib.hid hb; clear hb
  go_wp2_with fail
  go_ret
  exact ⟨rfl, (below_drewN (((Below.refl _ _).alloc (Nat.le_refl _) _).alloc (by simp) _) _).trans (HB.out.mono (by simp; omega))⟩
end Go.Proofs.Ytmfmgofafamemaa
