/- Contract of surdbig's Rat.Cmp. -/
import Derived.Test.YtokmommlabdcdaaGreatDoorVBig23
import Derived.Test.YtokmommlabdcdaaGreatDoorVBig27
import Derived.Test.YtokmommlabdcdaaGreatDoorVBig11
import Derived.Test.YtokmommlabdcdaaGreatDoorVBig36
set_option linter.unusedVariables false
set_option linter.unusedSimpArgs false
set_option linter.unusedVariables false
set_option linter.unusedSimpArgs false
namespace Go.Proofs.YtokmommlabdcdaaGreatDoor
open Wd Fl Go.RowKit
/-- the answer of Cmp -/
def cmpQ (x y : Rat) : Int := cmpZ (x.num * (y.den : Int)) (y.num * (x.den : Int))
theorem sig_small (n : Int) : -9223372036854775808 ≤ sigI n ∧ sigI n < 9223372036854775808 ∧ bl (sigI n) ≤ 100000 := by
  unfold sigI
  split
  · decide
  · split <;> decide
theorem cmpQ_sig {x y : Rat} (h : ¬ sigI x.num = sigI y.num) : cmpZ (sigI x.num) (sigI y.num) = cmpQ x y := by
  have hx := x.den_pos
  have hy := y.den_pos
  have hx' : (0 : Int) < (x.den : Int) := by omega
  have hy' : (0 : Int) < (y.den : Int) := by omega
  unfold cmpQ
  have k : ∀ (n : Int) (d : Int), 0 < d → sigI (n * d) = sigI n := by
    intro n d hd
    unfold sigI
    rcases Int.lt_trichotomy n 0 with h | h | h
    · have : n * d < 0 := Int.mul_neg_of_neg_of_pos h hd
      rw [if_pos this, if_pos h]
    · subst h; simp
    · have : 0 < n * d := Int.mul_pos h hd
      rw [if_neg (by omega), if_neg (by omega), if_neg (by omega), if_neg (by omega)]
  have k1 := k x.num y.den hy'
  have k2 := k y.num x.den hx'
  rw [← k1, ← k2] at h ⊢
  generalize x.num * (y.den : Int) = p at *
  generalize y.num * (x.den : Int) = q at *
  unfold cmpZ sigI at *
  (repeat' split) <;> (repeat' split at h) <;> omega
theorem vbal {w W : World} {c : Obj} (h : Below w.heap.size w W) : Below w.heap.size w (W.alloc c) := h.alloc h.size _
theorem vnum {w W : World} {b : Nat} {x : Rat} (h : RatAt w b x) (hb : Below w.heap.size w W) : IntAt TW W ⟨b, 0, none⟩ x.num := (h.below hb).1
theorem vcall {w W w1 : World} (h : Below w.heap.size w W) (hb : Below W.heap.size W w1) : Below w.heap.size w w1 := h.trans (hb.mono h.size)
theorem vzal {W : World} {c : Obj} {b : Nat} (h : ZAt TW W b 0 2) : ZAt TW (W.alloc c) b 0 2 := h.below (bnew W c)
theorem vzdr {W : World} {b : Nat} (h : ZAt TW W b 0 2) : ZAt TW W.drew b 0 2 := h.below (Below.refl _ W).drew
theorem vial {W : World} {c : Obj} {p : Addr} {n : Int} (h : IntAt TW W p n) : IntAt TW (W.alloc c) p n := h.below (bnew W c)
theorem vidr {W : World} {p : Addr} {n : Int} (h : IntAt TW W p n) : IntAt TW W.drew p n := h.below (Below.refl _ W).drew
set_option maxRecDepth 100000 in
set_option maxHeartbeats 4000000 in
theorem rcmp_any (bx bY : Nat) (x y : Rat) (w : World) (hx : RatAt w bx x) (hy : RatAt w bY y) (nx : bl x.num ≤ 1500) (ny : bl y.num ≤ 1500) (dx : bl (x.den : Int) ≤ 1500) (dy : bl (y.den : Int) ≤ 1500) :
    Calls Tryz.prog 20 #[.pointer (some ⟨bx, 0, none⟩), .pointer (some ⟨bY, 0, none⟩)] w fun e w' => e = .returned (.int .i64 (cmpQ x y)) ∧ Below w.heap.size w w' := by
  have SX := Lib.hid (rsign_any bx x w hx (by omega))
  have SY := Lib.hid (rsign_any bY y w hy (by omega))
  have HX := Lib.hid hx
  have HY := Lib.hid hy
  have NX := Lib.hid nx
  have NY := Lib.hid ny
  have DX := Lib.hid dx
  have DY := Lib.hid dy
  have WX := Lib.hid (whole_any bx x w hx)
  have WY := Lib.hid (whole_any bY y w hy)
  clear nx ny dx dy
  by_cases hs : sigI x.num = sigI y.num
  · have f1 : (sigI x.num == sigI y.num) = true := by rw [beq_iff_eq]; exact hs
    clear hx hy hs
    by_cases c1 : x.den = 1 ∧ y.den = 1
    · have g1 : decide (x.den = 1) = true := decide_eq_true c1.1
      have g2 : decide (y.den = 1) = true := decide_eq_true c1.2
      rw [g1] at WX
      rw [g2] at WY
      have E : Hid (cmpZ x.num y.num = cmpQ x y) := Lib.hid (by unfold cmpQ; rw [c1.1, c1.2]; simp)
      clear c1 g1 g2
      go_enter Tryz.func20, Tryz.ntmps20
      go_wp2_with fail
      refine SX.out.mono ?_
      rintro e w' ⟨rfl, rfl⟩
      go_wp2_with fail
      refine SY.out.mono ?_
      rintro e w' ⟨rfl, rfl⟩
      go_wp2_with fail
      refine (WX.out).mono ?_
      rintro e w' ⟨rfl, rfl⟩
      go_wp2_with fail
      refine (WY.out).mono ?_
      rintro e w' ⟨rfl, rfl⟩
      go_wp2_with fail
      go_region_law (go_simp; go_at_call 58; (with_reducible refine (cmp_any bx 0 bY 0 x.num y.num _ (vnum HX.out (by repeat (first | exact Below.refl _ _ | refine vbal ?_ | refine Below.drew ?_))) (vnum HY.out (by repeat (first | exact Below.refl _ _ | refine vbal ?_ | refine Below.drew ?_))) (Nat.le_trans NX.out (by decide)) (Nat.le_trans NY.out (by decide))).mono ?_); rintro e w1 ⟨rfl, hb⟩; have B : Hid (Below w.heap.size w w1) := Lib.hid (vcall (by repeat (first | exact Below.refl _ _ | refine vbal ?_ | refine Below.drew ?_)) hb); clear hb)
      go_wp2_with fail
      go_ret
      exact ⟨ret_int E.out, B.out⟩
    · have E : Hid (cmpZ (x.num * (y.den : Int)) (y.num * (x.den : Int)) = cmpQ x y) := Lib.hid rfl
      have GX : Hid ((decide (x.den = 1) = true ∧ decide (y.den = 1) = false) ∨ decide (x.den = 1) = false) := Lib.hid (by
        by_cases a : x.den = 1
        · exact .inl ⟨decide_eq_true a, decide_eq_false (fun b => c1 ⟨a, b⟩)⟩
        · exact .inr (decide_eq_false a))
      have BM1 : Hid (bl (x.num * (y.den : Int)) ≤ 100000) := Lib.hid (by have := bl_mul x.num (y.den : Int); have := NX.out; have := DY.out; omega)
      have BM2 : Hid (bl (y.num * (x.den : Int)) ≤ 100000) := Lib.hid (by have := bl_mul y.num (x.den : Int); have := NY.out; have := DX.out; omega)
      clear c1
      rcases GX.out with ⟨g1, g2⟩ | g1
      · rw [g1] at WX
        rw [g2] at WY
        clear g1 g2
        go_enter Tryz.func20, Tryz.ntmps20
        go_wp2_with fail
        refine SX.out.mono ?_
        rintro e w' ⟨rfl, rfl⟩
        go_wp2_with fail
        refine SY.out.mono ?_
        rintro e w' ⟨rfl, rfl⟩
        go_wp2_with fail
        refine (WX.out).mono ?_
        rintro e w' ⟨rfl, rfl⟩
        go_wp2_with fail
        refine (WY.out).mono ?_
        rintro e w' ⟨rfl, rfl⟩
        go_wp2_with fail
        go_region_law (first | (have hh := P4.out; clear hh; go_simp; go_at_call 58; (refine (cmp_any _ 0 _ 0 (x.num * (y.den : Int)) (y.num * (x.den : Int)) _ (by repeat (first | with_reducible exact P4.out | with_reducible exact P1.out | with_reducible refine vial ?_ | with_reducible refine vidr ?_ | with_reducible refine Y4.out _ _ ?_ ?_ | with_reducible refine Y3.out _ _ ?_ | (intro hne; have s1 := S1.out; have s2 := S2.out; have s3 := S3.out; (try simp at s1); (try simp at s2); (try simp at s3); omega))) (by repeat (first | with_reducible exact P4.out | with_reducible exact P1.out | with_reducible refine vial ?_ | with_reducible refine vidr ?_ | with_reducible refine Y4.out _ _ ?_ ?_ | with_reducible refine Y3.out _ _ ?_ | (intro hne; have s1 := S1.out; have s2 := S2.out; have s3 := S3.out; (try simp at s1); (try simp at s2); (try simp at s3); omega))) BM1.out BM2.out).mono ?_); rintro e w5 ⟨rfl, hb⟩; have B5 : Hid (Below w.heap.size w w5) := Lib.hid (vcall (by repeat (first | with_reducible exact B4.out | with_reducible exact B3.out | with_reducible exact B2.out | with_reducible exact B1.out | with_reducible exact Below.refl _ _ | with_reducible refine vbal ?_ | with_reducible refine Below.drew ?_)) hb); clear hb) | (have hh := I3.out; clear hh; go_simp; go_at_call 53; (refine (imul_any _ 0 bY 0 bq oq y.num (x.den : Int) _ (by repeat (first | exact znew _ | exact znew2 _ _ | with_reducible refine vzal ?_ | with_reducible refine vzdr ?_ | with_reducible refine Z3.out _ ?_ | with_reducible refine Z2.out _ ?_ | with_reducible refine Z1.out _ ?_)) (vnum HY.out (by repeat (first | with_reducible exact B4.out | with_reducible exact B3.out | with_reducible exact B2.out | with_reducible exact B1.out | with_reducible exact Below.refl _ _ | with_reducible refine vbal ?_ | with_reducible refine Below.drew ?_))) (by repeat (first | with_reducible exact I3.out | with_reducible exact I1.out | with_reducible refine vial ?_ | with_reducible refine vidr ?_ | with_reducible refine Y3.out _ _ ?_)) (Nat.le_trans NY.out (by decide)) (Nat.le_trans DX.out (by decide)) (.inl NY.out)).mono ?_); rintro e w4 ⟨rfl, hi, hr⟩; have Y4 := Lib.hid (fun (c : Nat) (n : Int) (h : IntAt TW _ ⟨c, 0, none⟩ n) (ne : c ≠ _) => IntAt.wr h hr (show ZAt TW _ _ 0 2 from (by repeat (first | exact znew _ | exact znew2 _ _ | with_reducible refine vzal ?_ | with_reducible refine vzdr ?_ | with_reducible refine Z3.out _ ?_ | with_reducible refine Z2.out _ ?_ | with_reducible refine Z1.out _ ?_))) (.inl ne)); have P4 := Lib.hid hi; have B4 : Hid (Below w.heap.size w w4) := Lib.hid (bwr (by repeat (first | with_reducible exact B4.out | with_reducible exact B3.out | with_reducible exact B2.out | with_reducible exact B1.out | with_reducible exact Below.refl _ _ | with_reducible refine vbal ?_ | with_reducible refine Below.drew ?_)) hr (by have := B1.out.size; have := B2.out.size; have := B3.out.size; omega)); clear hi hr) | (have hh := P1.out; clear hh; go_simp; go_at_call 60; (refine (denom_any bx x _ (RatAt.below HX.out (by repeat (first | with_reducible exact B4.out | with_reducible exact B3.out | with_reducible exact B2.out | with_reducible exact B1.out | with_reducible exact Below.refl _ _ | with_reducible refine vbal ?_ | with_reducible refine Below.drew ?_)))).mono ?_); rintro e w3 ⟨bq, oq, rfl, hi, hb, hor⟩; have I3 := Lib.hid hi; have B3 : Hid (Below w.heap.size w w3) := Lib.hid (vcall (by repeat (first | with_reducible exact B4.out | with_reducible exact B3.out | with_reducible exact B2.out | with_reducible exact B1.out | with_reducible exact Below.refl _ _ | with_reducible refine vbal ?_ | with_reducible refine Below.drew ?_)) hb); have Z3 := Lib.hid (fun (b : Nat) (h : ZAt TW _ b 0 2) => ZAt.below h hb); have Y3 := Lib.hid (fun (p : Addr) (n : Int) (h : IntAt TW _ p n) => IntAt.below h hb); have S3 := Lib.hid hb.size; clear hi hb hor) | (have hh := I1.out; clear hh; go_simp; go_at_call 53; (refine (imul_any _ 0 bx 0 bp op x.num (y.den : Int) _ (by repeat (first | exact znew _ | exact znew2 _ _ | with_reducible refine vzal ?_ | with_reducible refine vzdr ?_ | with_reducible refine Z3.out _ ?_ | with_reducible refine Z2.out _ ?_ | with_reducible refine Z1.out _ ?_)) (vnum HX.out (by repeat (first | with_reducible exact B4.out | with_reducible exact B3.out | with_reducible exact B2.out | with_reducible exact B1.out | with_reducible exact Below.refl _ _ | with_reducible refine vbal ?_ | with_reducible refine Below.drew ?_))) (by repeat (first | with_reducible exact I3.out | with_reducible exact I1.out | with_reducible refine vial ?_ | with_reducible refine vidr ?_ | with_reducible refine Y3.out _ _ ?_)) (Nat.le_trans NX.out (by decide)) (Nat.le_trans DY.out (by decide)) (.inl NX.out)).mono ?_); rintro e w2 ⟨rfl, hi, hr⟩; have P1 := Lib.hid hi; have B2 : Hid (Below w.heap.size w w2) := Lib.hid (bwr (by repeat (first | with_reducible exact B4.out | with_reducible exact B3.out | with_reducible exact B2.out | with_reducible exact B1.out | with_reducible exact Below.refl _ _ | with_reducible refine vbal ?_ | with_reducible refine Below.drew ?_)) hr (by have := B1.out.size; omega)); have Z2 := Lib.hid (fun (b : Nat) (h : ZAt TW _ b 0 2) => ZAt.wr h hr); have S2 := Lib.hid hr.size; clear hi hr) | (go_simp; go_at_call 60; (refine (denom_any bY y _ (RatAt.below HY.out (by repeat (first | with_reducible exact B4.out | with_reducible exact B3.out | with_reducible exact B2.out | with_reducible exact B1.out | with_reducible exact Below.refl _ _ | with_reducible refine vbal ?_ | with_reducible refine Below.drew ?_)))).mono ?_); rintro e w1 ⟨bp, op, rfl, hi, hb, hor⟩; have I1 := Lib.hid hi; have B1 : Hid (Below w.heap.size w w1) := Lib.hid (vcall (by repeat (first | with_reducible exact B4.out | with_reducible exact B3.out | with_reducible exact B2.out | with_reducible exact B1.out | with_reducible exact Below.refl _ _ | with_reducible refine vbal ?_ | with_reducible refine Below.drew ?_)) hb); have Z1 := Lib.hid (fun (b : Nat) (h : ZAt TW _ b 0 2) => ZAt.below h hb); have S1 := Lib.hid hb.size; clear hi hb hor))
        all_goals
          go_wp2_with fail
          go_ret
          exact ⟨ret_int E.out, B5.out⟩

      · rw [g1] at WX
        clear g1
        go_enter Tryz.func20, Tryz.ntmps20
        go_wp2_with fail
        refine SX.out.mono ?_
        rintro e w' ⟨rfl, rfl⟩
        go_wp2_with fail
        refine SY.out.mono ?_
        rintro e w' ⟨rfl, rfl⟩
        go_wp2_with fail
        refine (WX.out).mono ?_
        rintro e w' ⟨rfl, rfl⟩
        go_wp2_with fail
        go_region_law (first | (have hh := P4.out; clear hh; go_simp; go_at_call 58; (refine (cmp_any _ 0 _ 0 (x.num * (y.den : Int)) (y.num * (x.den : Int)) _ (by repeat (first | with_reducible exact P4.out | with_reducible exact P1.out | with_reducible refine vial ?_ | with_reducible refine vidr ?_ | with_reducible refine Y4.out _ _ ?_ ?_ | with_reducible refine Y3.out _ _ ?_ | (intro hne; have s1 := S1.out; have s2 := S2.out; have s3 := S3.out; (try simp at s1); (try simp at s2); (try simp at s3); omega))) (by repeat (first | with_reducible exact P4.out | with_reducible exact P1.out | with_reducible refine vial ?_ | with_reducible refine vidr ?_ | with_reducible refine Y4.out _ _ ?_ ?_ | with_reducible refine Y3.out _ _ ?_ | (intro hne; have s1 := S1.out; have s2 := S2.out; have s3 := S3.out; (try simp at s1); (try simp at s2); (try simp at s3); omega))) BM1.out BM2.out).mono ?_); rintro e w5 ⟨rfl, hb⟩; have B5 : Hid (Below w.heap.size w w5) := Lib.hid (vcall (by repeat (first | with_reducible exact B4.out | with_reducible exact B3.out | with_reducible exact B2.out | with_reducible exact B1.out | with_reducible exact Below.refl _ _ | with_reducible refine vbal ?_ | with_reducible refine Below.drew ?_)) hb); clear hb) | (have hh := I3.out; clear hh; go_simp; go_at_call 53; (refine (imul_any _ 0 bY 0 bq oq y.num (x.den : Int) _ (by repeat (first | exact znew _ | exact znew2 _ _ | with_reducible refine vzal ?_ | with_reducible refine vzdr ?_ | with_reducible refine Z3.out _ ?_ | with_reducible refine Z2.out _ ?_ | with_reducible refine Z1.out _ ?_)) (vnum HY.out (by repeat (first | with_reducible exact B4.out | with_reducible exact B3.out | with_reducible exact B2.out | with_reducible exact B1.out | with_reducible exact Below.refl _ _ | with_reducible refine vbal ?_ | with_reducible refine Below.drew ?_))) (by repeat (first | with_reducible exact I3.out | with_reducible exact I1.out | with_reducible refine vial ?_ | with_reducible refine vidr ?_ | with_reducible refine Y3.out _ _ ?_)) (Nat.le_trans NY.out (by decide)) (Nat.le_trans DX.out (by decide)) (.inl NY.out)).mono ?_); rintro e w4 ⟨rfl, hi, hr⟩; have Y4 := Lib.hid (fun (c : Nat) (n : Int) (h : IntAt TW _ ⟨c, 0, none⟩ n) (ne : c ≠ _) => IntAt.wr h hr (show ZAt TW _ _ 0 2 from (by repeat (first | exact znew _ | exact znew2 _ _ | with_reducible refine vzal ?_ | with_reducible refine vzdr ?_ | with_reducible refine Z3.out _ ?_ | with_reducible refine Z2.out _ ?_ | with_reducible refine Z1.out _ ?_))) (.inl ne)); have P4 := Lib.hid hi; have B4 : Hid (Below w.heap.size w w4) := Lib.hid (bwr (by repeat (first | with_reducible exact B4.out | with_reducible exact B3.out | with_reducible exact B2.out | with_reducible exact B1.out | with_reducible exact Below.refl _ _ | with_reducible refine vbal ?_ | with_reducible refine Below.drew ?_)) hr (by have := B1.out.size; have := B2.out.size; have := B3.out.size; omega)); clear hi hr) | (have hh := P1.out; clear hh; go_simp; go_at_call 60; (refine (denom_any bx x _ (RatAt.below HX.out (by repeat (first | with_reducible exact B4.out | with_reducible exact B3.out | with_reducible exact B2.out | with_reducible exact B1.out | with_reducible exact Below.refl _ _ | with_reducible refine vbal ?_ | with_reducible refine Below.drew ?_)))).mono ?_); rintro e w3 ⟨bq, oq, rfl, hi, hb, hor⟩; have I3 := Lib.hid hi; have B3 : Hid (Below w.heap.size w w3) := Lib.hid (vcall (by repeat (first | with_reducible exact B4.out | with_reducible exact B3.out | with_reducible exact B2.out | with_reducible exact B1.out | with_reducible exact Below.refl _ _ | with_reducible refine vbal ?_ | with_reducible refine Below.drew ?_)) hb); have Z3 := Lib.hid (fun (b : Nat) (h : ZAt TW _ b 0 2) => ZAt.below h hb); have Y3 := Lib.hid (fun (p : Addr) (n : Int) (h : IntAt TW _ p n) => IntAt.below h hb); have S3 := Lib.hid hb.size; clear hi hb hor) | (have hh := I1.out; clear hh; go_simp; go_at_call 53; (refine (imul_any _ 0 bx 0 bp op x.num (y.den : Int) _ (by repeat (first | exact znew _ | exact znew2 _ _ | with_reducible refine vzal ?_ | with_reducible refine vzdr ?_ | with_reducible refine Z3.out _ ?_ | with_reducible refine Z2.out _ ?_ | with_reducible refine Z1.out _ ?_)) (vnum HX.out (by repeat (first | with_reducible exact B4.out | with_reducible exact B3.out | with_reducible exact B2.out | with_reducible exact B1.out | with_reducible exact Below.refl _ _ | with_reducible refine vbal ?_ | with_reducible refine Below.drew ?_))) (by repeat (first | with_reducible exact I3.out | with_reducible exact I1.out | with_reducible refine vial ?_ | with_reducible refine vidr ?_ | with_reducible refine Y3.out _ _ ?_)) (Nat.le_trans NX.out (by decide)) (Nat.le_trans DY.out (by decide)) (.inl NX.out)).mono ?_); rintro e w2 ⟨rfl, hi, hr⟩; have P1 := Lib.hid hi; have B2 : Hid (Below w.heap.size w w2) := Lib.hid (bwr (by repeat (first | with_reducible exact B4.out | with_reducible exact B3.out | with_reducible exact B2.out | with_reducible exact B1.out | with_reducible exact Below.refl _ _ | with_reducible refine vbal ?_ | with_reducible refine Below.drew ?_)) hr (by have := B1.out.size; omega)); have Z2 := Lib.hid (fun (b : Nat) (h : ZAt TW _ b 0 2) => ZAt.wr h hr); have S2 := Lib.hid hr.size; clear hi hr) | (go_simp; go_at_call 60; (refine (denom_any bY y _ (RatAt.below HY.out (by repeat (first | with_reducible exact B4.out | with_reducible exact B3.out | with_reducible exact B2.out | with_reducible exact B1.out | with_reducible exact Below.refl _ _ | with_reducible refine vbal ?_ | with_reducible refine Below.drew ?_)))).mono ?_); rintro e w1 ⟨bp, op, rfl, hi, hb, hor⟩; have I1 := Lib.hid hi; have B1 : Hid (Below w.heap.size w w1) := Lib.hid (vcall (by repeat (first | with_reducible exact B4.out | with_reducible exact B3.out | with_reducible exact B2.out | with_reducible exact B1.out | with_reducible exact Below.refl _ _ | with_reducible refine vbal ?_ | with_reducible refine Below.drew ?_)) hb); have Z1 := Lib.hid (fun (b : Nat) (h : ZAt TW _ b 0 2) => ZAt.below h hb); have S1 := Lib.hid hb.size; clear hi hb hor))
        all_goals
          go_wp2_with fail
          go_ret
          exact ⟨ret_int E.out, B5.out⟩

  · have f1 : (sigI x.num == sigI y.num) = false := by rw [beq_eq_false_iff_ne]; exact hs
    have E : Hid (cmpZ (sigI x.num) (sigI y.num) = cmpQ x y) := Lib.hid (cmpQ_sig hs)
    have SX1 := Lib.hid (sig_small x.num)
    have SY1 := Lib.hid (sig_small y.num)
    have SXb := Lib.hid (fun W (h : Below w.heap.size w W) => rsign_any bx x W (RatAt.below HX.out h) (by have := NX.out; omega))
    have SYb := Lib.hid (fun W (h : Below w.heap.size w W) => rsign_any bY y W (RatAt.below HY.out h) (by have := NY.out; omega))
    clear hx hy hs
    generalize sigI x.num = sx at *
    generalize sigI y.num = sy at *
    go_enter Tryz.func20, Tryz.ntmps20
    go_wp2_with fail
    refine SX.out.mono ?_
    rintro e w' ⟨rfl, rfl⟩
    go_wp2_with fail
    refine SY.out.mono ?_
    rintro e w' ⟨rfl, rfl⟩
    go_wp2_with fail
    refine SX.out.mono ?_
    rintro e w' ⟨rfl, rfl⟩
    go_wp2_with fail
    refine (newInt_any sx _ (by have := SX1.out; omega) (by have := SX1.out; omega)).mono ?_
    rintro e w1 ⟨b1, rfl, hle, hi, hb⟩
    have I1 := Lib.hid hi
    have B1 := Lib.hid hb
    clear hle hi hb
    go_wp2_with fail
    refine (SYb.out w1 B1.out).mono ?_
    rintro e w' ⟨rfl, rfl⟩
    go_wp2_with fail
    refine (newInt_any sy _ (by have := SY1.out; omega) (by have := SY1.out; omega)).mono ?_
    rintro e w2 ⟨b2, rfl, hle, hi, hb⟩
    have J1 := Lib.hid (I1.out.below hb)
    have I2 := Lib.hid hi
    have B2 := Lib.hid (B1.out.trans (hb.mono B1.out.size))
    clear hle hi hb
    go_wp2_with fail
    refine (cmp_any b1 0 b2 0 sx sy w2 J1.out I2.out SX1.out.2.2 SY1.out.2.2).mono ?_
    rintro e w3 ⟨rfl, hb⟩
    have B3 := Lib.hid (B2.out.trans (hb.mono B2.out.size))
    clear hb
    go_wp2_with fail
    go_ret
    exact ⟨ret_int E.out, B3.out⟩
end Go.Proofs.YtokmommlabdcdaaGreatDoor
