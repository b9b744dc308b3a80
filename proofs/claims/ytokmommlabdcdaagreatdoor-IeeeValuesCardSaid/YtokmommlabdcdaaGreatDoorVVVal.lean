/- What the law IeeeValues asks of a float's dyadic: plain facts, and the contracts in that form. Contracts that IeeeValues asks, in the form of a float's dyadic. -/
import Derived.Test.YtokmommlabdcdaaGreatDoorVBDy
import Derived.Test.YtokmommlabdcdaaGreatDoorVVCmp
import Derived.Test.YtokmommlabdcdaaGreatDoorVFlRel
import Derived.Test.YtokmommlabdcdaaGreatDoorVDAwake
import Derived.Test.YtokmommlabdcdaaGreatDoorVDBase
set_option linter.unusedVariables false
set_option linter.unusedSimpArgs false
set_option linter.unusedVariables false
set_option linter.unusedSimpArgs false
namespace Go.Proofs.YtokmommlabdcdaaGreatDoor
open Wd Fl Go.RowKit
/-- a finite float's dyadic, nought too -/
structure Vl (x : Nat) (s : ByteArray) (e d : Int) : Prop where
  txt : s = sv (Lib.itoa d)
  iv : iv x = d * ((2 ^ (e + 1074).toNat : Nat) : Int)
  lt : d.natAbs < 2 ^ 53
  lo : -1074 ≤ e
  hi : e ≤ 1023
  odd : (mant x = 0 ∧ d = 0 ∧ e = 0) ∨ (mant x ≠ 0 ∧ OddV x d e)
theorem zero_txt : (⟨#[48]⟩ : ByteArray) = sv (Lib.itoa 0) := by
  rw [show (0 : Int) = ((0 : Nat) : Int) from rfl, itoa_n, Lib.decDigits_one (by decide)]; rfl
theorem mant_iv {x : Nat} : mant x = 0 ↔ iv x = 0 := by
  rw [← mv_zero, mv_parts]
  constructor
  · intro h; rw [h, Nat.zero_mul]
  · intro h
    rcases Nat.mul_eq_zero.1 h with h | h
    · exact h
    · have := Nat.two_pow_pos (plc x - 1); omega
theorem vl_of {x : Nat} {s : ByteArray} {e c : Int} (hf : fin x) (h : ExS x s e c) : c = 0 ∧ ∃ d, Vl x s e d := by
  rcases h with ⟨h1, rfl, rfl, rfl⟩ | ⟨h1, h2, rfl, rfl, rfl⟩ | ⟨h1, h2, rfl, d, h3, rfl⟩
  · exact absurd hf h1
  · exact ⟨rfl, 0, ⟨zero_txt, by rw [mant_iv.1 h2, Int.zero_mul], by decide, by decide, by decide, .inl ⟨h2, rfl, rfl⟩⟩⟩
  · have i := OddV.iv h3
    refine ⟨rfl, d, ⟨rfl, i.2, OddV.small h3, i.1, ?_, .inr ⟨h2, h3⟩⟩⟩
    obtain ⟨ho, _, t, ht, he⟩ := h3
    have hp := plc_le hf
    have hm := mant_lt x
    have d1 : 1 ≤ d.natAbs := by omega
    have : 2 ^ t < 2 ^ 53 := Nat.lt_of_le_of_lt (by rw [ht]; exact Nat.le_mul_of_pos_right _ d1) hm
    have := (Nat.pow_lt_pow_iff_right (a := 2) (by decide)).1 this
    omega
theorem vl_neg {x : Nat} {s s' : ByteArray} {e e' d d' : Int} (hx : x < 2 ^ 64) (h : Vl x s e d) (g : Vl (neg x) s' e' d') : e' = e ∧ d' = -d := by
  have hi := iv_neg hx
  have mz : mant (neg x) = 0 ↔ mant x = 0 := by rw [mant_iv, mant_iv, hi]; omega
  rcases h.odd with ⟨a, b, c⟩ | ⟨a, b⟩ <;> rcases g.odd with ⟨a', b', c'⟩ | ⟨a', b'⟩
  · rw [b, c, b', c']; exact ⟨rfl, rfl⟩
  · exact absurd (mz.2 a) a'
  · exact absurd (mz.1 a') a
  · have o : OddV (neg x) (-d) e := by
      obtain ⟨ho, hs, t, ht, he⟩ := b
      have d0 : d ≠ 0 := by intro q; rw [q] at ho; simp at ho
      have rgn : rg (neg x) = rg x := rg_neg x hx
      have nm : neg x % 2 ^ 52 = x % 2 ^ 52 := by unfold neg; split <;> omega
      have m : mant (neg x) = mant x := by unfold mant; rw [rgn, nm]
      have p : plc (neg x) = plc x := by unfold plc; rw [rgn]
      refine ⟨by rw [Int.natAbs_neg]; exact ho, ?_, t, by rw [m, Int.natAbs_neg]; exact ht, by rw [p]; exact he⟩
      have ix := h.iv
      have iy := hi
      have P := Nat.two_pow_pos (e + 1074).toNat
      have sx : sg (neg x) = true ↔ iv (neg x) < 0 := by
        have n0 : iv (neg x) ≠ 0 := fun q => a' (mant_iv.2 q)
        unfold iv at n0 ⊢
        by_cases c : sg (neg x) = true
        · rw [if_pos c] at n0 ⊢; exact iff_of_true c (by omega)
        · rw [if_neg c] at n0 ⊢; exact iff_of_false c (by omega)
      rw [sx, hi, ix]
      constructor
      · intro q
        have : 0 < d * ((2 ^ (e + 1074).toNat : Nat) : Int) := Int.mul_pos (by omega) (by omega)
        omega
      · intro q
        rcases Int.lt_trichotomy d 0 with z | z | z
        · have : d * ((2 ^ (e + 1074).toNat : Nat) : Int) < 0 := Int.mul_neg_of_neg_of_pos z (by omega)
          omega
        · exact absurd z d0
        · omega
    obtain ⟨r1, r2⟩ := OddV.unique b' o
    exact ⟨r2, r1⟩
theorem vl_dyq {x : Nat} {s : ByteArray} {e d : Int} (h : Vl x s e d) : dyq d e = fv x := by
  obtain ⟨K, hK⟩ : ∃ K : Nat, K = 1074 := ⟨_, rfl⟩
  have hU : UN = 2 ^ K := (UN_eq K hK).symm
  have lo := h.lo
  unfold fv dyq
  rw [h.iv]
  have hP := Nat.two_pow_pos
  by_cases c : 0 ≤ e
  · rw [if_pos c, ← Rat.mkRat_one, Rat.mkRat_eq_iff (by decide) UN_ne, hU]
    have a : (e + 1074).toNat = e.toNat + K := by omega
    rw [a, Nat.pow_add, Int.natCast_mul]
    simp only [Int.natCast_one, Int.mul_one, Int.mul_assoc]
  · rw [if_neg c, Rat.mkRat_eq_iff (Nat.ne_of_gt (Nat.two_pow_pos _)) UN_ne, hU]
    have a : K = (e + 1074).toNat + (-e).toNat := by omega
    have b : ((2 ^ K : Nat) : Int) = ((2 ^ (e + 1074).toNat : Nat) : Int) * ((2 ^ (-e).toNat : Nat) : Int) := by rw [← Int.natCast_mul, ← Nat.pow_add, ← a]
    rw [b, Int.mul_assoc]
theorem cmpQ_lt {x y : Nat} (h : iv x < iv y) : cmpQ (fv x) (fv y) = -1 := by
  have c1 : (fv x).num * (UN : Int) = iv x * ((fv x).den : Int) := cross_of UN_ne rfl
  have c2 : (fv y).num * (UN : Int) = iv y * ((fv y).den : Int) := cross_of UN_ne rfl
  have d1 : (0 : Int) < ((fv x).den : Int) := by have := (fv x).den_pos; omega
  have d2 : (0 : Int) < ((fv y).den : Int) := by have := (fv y).den_pos; omega
  have u : (0 : Int) < (UN : Int) := by have := UN_pos; omega
  unfold cmpQ cmpZ
  rw [if_pos]
  have k : (fv x).num * ((fv y).den : Int) * (UN : Int) < (fv y).num * ((fv x).den : Int) * (UN : Int) := by
    rw [Int.mul_right_comm, c1, Int.mul_right_comm (fv y).num, c2, Int.mul_right_comm (iv x), Int.mul_right_comm (iv y), Int.mul_assoc, Int.mul_assoc (iv y), Int.mul_comm ((fv y).den : Int)]
    exact Int.mul_lt_mul_of_pos_right h (Int.mul_pos d1 d2)
  exact Int.lt_of_mul_lt_mul_right k (Int.le_of_lt u)
theorem nxt_iv {x : Nat} (hf : fin x) : iv x < iv (nxt x) ∨ (rg x = 0 ∧ sg x = true) := by
  have nx : ¬ isNan x := by unfold fin at hf; unfold isNan; omega
  have pe : pl x ≠ 9218868437227405312 := by
    intro q; unfold pl at q; unfold fin INF at hf; split at q <;> omega
  obtain ⟨h1, h2, h3⟩ := nxt_num nx pe
  rcases Int.lt_trichotomy (iv x) (iv (nxt x)) with h | h | h
  · exact .inl h
  · rcases iv_eq h with q | ⟨q1, q2⟩
    · omega
    · right
      refine ⟨q1, ?_⟩
      cases c : sg x with
      | true => rfl
      | false =>
        exfalso
        unfold pl at h2
        rw [q1, q2, c] at h2
        simp only [Bool.false_eq_true, if_false] at h2
        split at h2 <;> omega
  · have := iv_lt h; omega
end Go.Proofs.YtokmommlabdcdaaGreatDoor
set_option linter.unusedVariables false
set_option linter.unusedSimpArgs false
namespace Go.Proofs.YtokmommlabdcdaaGreatDoor
open Wd Fl Go.RowKit
theorem itoa_form (d : Int) : (∃ u : Nat, d = (u : Int) ∧ Lib.itoa d = Lib.decDigits u) ∨ (∃ u : Nat, 0 < u ∧ d = -(u : Int) ∧ Lib.itoa d = 45 :: Lib.decDigits u) := by
  by_cases h : d < 0
  · right
    obtain ⟨u, rfl⟩ : ∃ u : Nat, d = -(u : Int) := ⟨d.natAbs, by omega⟩
    exact ⟨u, by omega, rfl, Lib.itoa_neg u (by omega)⟩
  · left
    obtain ⟨u, rfl⟩ : ∃ u : Nat, d = (u : Int) := ⟨d.natAbs, by omega⟩
    exact ⟨u, rfl, itoa_n u⟩
theorem dyadV {x : Nat} {s : ByteArray} {e d : Int} (h : Vl x s e d) (w : World) : Calls Tryz.prog 11 #[.agg #[.string s, .int .i64 e]] w fun en w' => en = .returned (.int .i64 0) ∧ Below w.heap.size w w' := by
  have hd := h.lt
  have lo := h.lo
  have hi := h.hi
  rcases h.odd with ⟨_, rfl, rfl⟩ | ⟨_, ho⟩
  · rw [h.txt, ← zero_txt]; exact dyadT_zero w
  · have od := ho.1
    rw [h.txt]
    rcases itoa_form d with ⟨u, rfl, he⟩ | ⟨u, u0, rfl, he⟩
    · rw [he]
      have un : u ≠ 0 := by omega
      have nu := Nume.dec un (by omega)
      have at_ := fun w => sv_at (P := Tryz.prog) 9 Tryz.underlying9 (Lib.decDigits u) ((Lib.decDigits u).length - 1) (by have := nu.pos; omega) w
      rw [dec_last] at at_
      have p := nu.pos
      have l := nu.len
      refine dyadT_some _ (Lib.decDigits u).length ((48 + u % 10 : Nat) : Int) e w (.inl ⟨_, nu, .inl rfl⟩) (ne_zero_text nu.head) (sv_size _) p (by omega) (fun w => ?_) (by omega) (by omega) (by omega) (by omega) (by omega)
      have := at_ w
      rwa [show (((Lib.decDigits u).length - 1 : Nat) : Int) = ((Lib.decDigits u).length : Int) - 1 by omega] at this
    · rw [he]
      have un : u ≠ 0 := by omega
      have nu := Nume.dec un (by omega)
      have p := nu.pos
      have l := nu.len
      have at_ := fun w => sv_at (P := Tryz.prog) 9 Tryz.underlying9 (45 :: Lib.decDigits u) ((Lib.decDigits u).length) (by simp) w
      have g : (45 :: Lib.decDigits u).getD (Lib.decDigits u).length 0 = (Lib.decDigits u).getD ((Lib.decDigits u).length - 1) 0 := by
        obtain ⟨n, hn⟩ : ∃ n, (Lib.decDigits u).length = n + 1 := ⟨(Lib.decDigits u).length - 1, by omega⟩
        rw [hn, List.getD_cons_succ, Nat.add_sub_cancel]
      rw [g, dec_last] at at_
      refine dyadT_some _ ((Lib.decDigits u).length + 1) ((48 + u % 10 : Nat) : Int) e w (.inl ⟨_, nu, .inr rfl⟩) (ne_zero_text (by rw [List.getD_cons_zero]; decide)) (by rw [sv_size]; rfl) (by omega) (by omega) (fun w => ?_) (by omega) (by omega) (by omega) (by omega) (by omega)
      have := at_ w
      rwa [show ((Lib.decDigits u).length : Int) = (((Lib.decDigits u).length + 1 : Nat) : Int) - 1 by omega] at this
set_option maxRecDepth 100000 in
set_option maxHeartbeats 4000000 in
theorem ldexp_nought (w : World) : Calls Tryz.prog 13 #[.float .f64 0, .int .i64 0] w fun e w' => e = .returned (.float .f64 0) ∧ ∃ n, w' = w.drewN n := by
  go_enter Tryz.func13, Tryz.ntmps13
  go_wp2_with (go_at_call 46; refine (ldexp_zero 0 _).mono ?_; rintro e w' ⟨rfl, n, rfl⟩)
  go_ret
  exact ⟨rfl, _, rfl⟩
theorem ldexpV {x : Nat} {s : ByteArray} {e d : Int} (hx : x < 2 ^ 64) (hf : fin x) (h : Vl x s e d) (w : World) :
    Calls Tryz.prog 13 #[.float .f64 (Go.floatOfInt .f64 d), .int .i64 e] w fun en w' => ∃ y, en = .returned (.float .f64 y) ∧ (FloatKind.f64.format.order y x != some Ordering.eq) = false ∧ Below w.heap.size w w' := by
  have nx : ¬ isNan x := by unfold fin at hf; unfold isNan; omega
  rcases h.odd with ⟨m0, rfl, rfl⟩ | ⟨_, ho⟩
  · rw [show Go.floatOfInt .f64 0 = 0 by decide]
    refine (ldexp_nought w).mono ?_
    rintro en w' ⟨rfl, n, rfl⟩
    refine ⟨0, rfl, ?_, below_drewN (Below.refl _ _) n⟩
    have o := order_num (x := 0) (y := x) (by decide) nx
    rw [mant_iv.1 m0, iv_zero] at o
    have : FloatKind.f64.format.order 0 x = some Ordering.eq := o
    rw [this]; rfl
  · refine (ldexp_exact x d e hx hf ho w).mono ?_
    rintro en w' ⟨rfl, n, rfl⟩
    refine ⟨x, rfl, ?_, below_drewN (Below.refl _ _) n⟩
    have o := order_num (x := x) (y := x) nx nx
    have : FloatKind.f64.format.order x x = some Ordering.eq := by
      have o2 : FloatKind.f64.format.order x x = some (compare (iv x) (iv x)) := o
      rw [o2, Int.compare_eq_eq.2 rfl]
    rw [this]; rfl
theorem sig_iv {x : Nat} {s : ByteArray} {e d : Int} (h : Vl x s e d) : sigI (iv x) = sigI d := by
  have P := Nat.two_pow_pos (e + 1074).toNat
  rw [h.iv]
  unfold sigI
  rcases Int.lt_trichotomy d 0 with z | z | z
  · have : d * ((2 ^ (e + 1074).toNat : Nat) : Int) < 0 := Int.mul_neg_of_neg_of_pos z (by omega)
    rw [if_pos this, if_pos z]
  · subst z; simp
  · have : 0 < d * ((2 ^ (e + 1074).toNat : Nat) : Int) := Int.mul_pos z (by omega)
    rw [if_neg (by omega), if_neg (by omega), if_neg (by omega), if_neg (by omega)]
set_option maxRecDepth 100000 in
set_option maxHeartbeats 4000000 in
theorem sign_any (x : Nat) (hf : fin x) (w : World) :
    Calls Tryz.prog 16 #[.float .f64 x] w fun e w' => e = .returned (.int .i64 (sigI (iv x))) ∧ w = w' := by
  have nx : ¬ isNan x := by unfold fin at hf; unfold isNan; omega
  have o : FloatKind.f64.format.order x 0 = some (compare (iv x) 0) := by
    have := order_num (x := x) (y := 0) nx (by decide)
    rw [iv_zero] at this; exact this
  rcases Int.lt_trichotomy (iv x) 0 with z | z | z
  · rw [Int.compare_eq_lt.2 z] at o
    have g : (FloatKind.f64.format.order x 0 == some Ordering.gt) = false := by rw [o]; rfl
    have l : (FloatKind.f64.format.order x 0 == some Ordering.lt) = true := by rw [o]; rfl
    have e : sigI (iv x) = -1 := by unfold sigI; rw [if_pos z]
    rw [e]
    clear o z e nx hf
    go_enter Tryz.func16, Tryz.ntmps16
    go_wp2_with fail
    go_ret
    exact ⟨rfl, rfl⟩
  · rw [Int.compare_eq_eq.2 z] at o
    have g : (FloatKind.f64.format.order x 0 == some Ordering.gt) = false := by rw [o]; rfl
    have l : (FloatKind.f64.format.order x 0 == some Ordering.lt) = false := by rw [o]; rfl
    have e : sigI (iv x) = 0 := by unfold sigI; rw [if_neg (by omega), if_pos z]
    rw [e]
    clear o z e nx hf
    go_enter Tryz.func16, Tryz.ntmps16
    go_wp2_with fail
    go_ret
    exact ⟨rfl, rfl⟩
  · rw [Int.compare_eq_gt.2 z] at o
    have g : (FloatKind.f64.format.order x 0 == some Ordering.gt) = true := by rw [o]; rfl
    have e : sigI (iv x) = 1 := by unfold sigI; rw [if_neg (by omega), if_neg (by omega)]
    rw [e]
    clear o z e nx hf
    go_enter Tryz.func16, Tryz.ntmps16
    go_wp2_with fail
    go_ret
    exact ⟨rfl, rfl⟩
end Go.Proofs.YtokmommlabdcdaaGreatDoor
