/- The walk of CpxQuotients. -/
import Derived.Test.YtmfmgofafamemaaCpxAwake
import Derived.Test.YtmfmgofafamemaaLdexp
import Derived.Test.YtmfmgofafamemaaQuiet
import Derived.Test.YtmfmgofafamemaaFlQuo7
import Derived.Deep.RegionHeld3
namespace Go.Proofs.Ytmfmgofafamemaa
open Fl Go.RowKit
namespace Quo
@[go_sem] theorem run_store_float {P : Program} (w : World) (ad : Addr) (m : Mode) (k : FloatKind) (a : Nat) : (store ad (.float k a) m).run P w = stored P w ad (.float k a) m := run_store P w ad _ m rfl
def part (a b c d i : Nat) : Nat := if i = 0 then a else if i = 1 then b else if i = 2 then c else d
structure Inv (w0 : World) (a b c d j : Nat) (w : World) : Prop where
  below : Below w0.heap.size w0 w
  size : w.heap.size = w0.heap.size + 2
  par : ∀ i, i < 4 → w.cell? ⟨w0.heap.size, i, none⟩ = some (.int .u64 ((part a b c d i : Nat) : Int))
  got : ∀ i, i < 4 → ∃ x, w.cell? ⟨w0.heap.size + 1, i, none⟩ = some (.float .f64 x) ∧ (i < j → Plain x)
  free : ∀ i, i < 4 → w.frozen? ⟨w0.heap.size + 1, i, none⟩ = false
theorem Inv.store {w0 w : World} {a b c d j J n x x0 : Nat} (h : Inv w0 a b c d J w) (hj : j < 4) (hJ : J = j ∨ J = j + 1) (hx : Plain x)
    (hc : w.cell? ⟨w0.heap.size + 1, j, none⟩ = some (.float .f64 x0)) : Inv w0 a b c d (j + 1) ((w.drewN n).setCell ⟨w0.heap.size + 1, j, none⟩ (.float .f64 x)) := by
  refine ⟨(below_drewN h.below n).setCell (Nat.le_succ _) _, by simpa using h.size, fun i hi => ?_, fun i hi => ?_, fun i hi => ?_⟩
  · have ne : (⟨w0.heap.size + 1, j, none⟩ : Addr) ≠ ⟨w0.heap.size, i, none⟩ := by intro e; injection e with e1; omega
    rw [World.cell?_setCell_other (h := ne)]
    exact h.par i hi
  · by_cases e : i = j
    · subst e
      have hc' : (w.drewN n).cell? ⟨w0.heap.size + 1, i, none⟩ = some (.float .f64 x0) := hc
      exact ⟨x, by rw [World.cell?_setCell_same (h := hc')], fun _ => hx⟩
    · obtain ⟨y, hy, hp⟩ := h.got i hi
      refine ⟨y, ?_, fun c => hp (by omega)⟩
      have ne : (⟨w0.heap.size + 1, j, none⟩ : Addr) ≠ ⟨w0.heap.size + 1, i, none⟩ := by intro e'; injection e' with e1 e2; omega
      rw [World.cell?_setCell_other (h := ne)]
      exact hy
  · have := h.free i hi
    simpa using this
theorem Inv.start (w : World) (a b c d : Nat) : Inv w a b c d 0 ((w.alloc (.cells #[.int .u64 (a : Int), .int .u64 (b : Int), .int .u64 (c : Int), .int .u64 (d : Int)] 54)).alloc (.cells #[.float .f64 0, .float .f64 0, .float .f64 0, .float .f64 0] 55)) := by
  refine ⟨((Below.refl _ _).alloc (Nat.le_refl _) _).alloc (by simp) _, by simp, fun i hi => ?_, fun i hi => ⟨0, ?_, fun c => absurd c (Nat.not_lt_zero _)⟩, fun i hi => ?_⟩
  all_goals (obtain rfl | rfl | rfl | rfl : i = 0 ∨ i = 1 ∨ i = 2 ∨ i = 3 := by omega)
  all_goals first | rfl | (simp [part]; done)
set_option maxRecDepth 100000 in
set_option maxHeartbeats 2000000 in
theorem cpxQuotients_walk (a b c d : Nat) (w : World) :
    Calls Try.prog 8 #[.agg #[.int .u64 (a : Int), .int .u64 (b : Int), .int .u64 (c : Int), .int .u64 (d : Int)]] w fun e w' => e = .returned (.bool true) ∧ Below w.heap.size w w' := by
  go_enter Try.func8, Try.ntmps8
  go_wp2_with fail
  go_loopw [4] (fun i wr => ∃ j : Nat, j ≤ 4 ∧ i = .int .i64 j ∧ Inv w a b c d j wr) (fun i _ => 4 - (intOf i).toNat)
  case atStart =>
    exact ⟨0, by omega, rfl, Inv.start w a b c d⟩
  case round =>
    obtain ⟨j, hj, rfl, inv⟩ := hrel
    have INV := Lib.hid inv
    clear inv
    by_cases hlt : j < 4
    · have hlt' : (j : Int) < 4 := by omega
      have ca : wr.cell? ⟨w.heap.size, j, none⟩ = some (.int .u64 ((part a b c d j : Nat) : Int)) := INV.out.par j hlt
      obtain ⟨x0, cx, _⟩ := INV.out.got j hlt
      have cf := INV.out.free j hlt
      generalize part a b c d j = p at *
      obtain ⟨F, hF, hF1⟩ : ∃ F : Nat, (p : Int).tmod 4503599627370496 = (F : Int) ∧ F < 4503599627370496 := ⟨p % 4503599627370496, by rw [Int.tmod_eq_emod_of_nonneg (by omega)]; omega, by omega⟩
      obtain ⟨q, v, rq, ra, l, h⟩ := part_runs F hF1
      obtain ⟨k, hk, hk1, hk2⟩ : ∃ k : Int, IntKind.i64.wrap (IntKind.i64.wrap (((p : Int) / 4503599627370496).tmod 8) - 4) = k ∧ -4 ≤ k ∧ k ≤ 3 := by
        refine ⟨_, rfl, ?_⟩
        rw [Int.tmod_eq_emod_of_nonneg (by omega)]
        simp only [IntKind.wrap_i64]
        omega
      clear hF1
      have rv : rg v = v := by unfold rg; omega
      have LD := Lib.hid (fun W => ldexp_any v k (by omega) (by rw [rv]; omega) (by rw [rv]; unfold INF; omega) (by rw [rv]; omega) (by rw [rv]; omega) W)
      have PL := Lib.hid (ldx_plain l h hk1 hk2)
      clear l h hk1 hk2 rv
      go_wp2_with fail
      go_region_held3 (fun w' => w'.cell? ⟨w.heap.size, j, none⟩ = some (.int .u64 (p : Int))) (first | exact ca | go_keep) ((go_at_call 11; (with_reducible refine (LD.out _).mono ?_); rintro e w1 ⟨rfl, n1, rfl⟩))
      have I2 := Lib.hid (INV.out.store (n := 1 + n1) hlt (.inl rfl) PL.out cx)
      have cx' : (wr.drewN (1 + n1)).cell? ⟨w.heap.size + 1, j, none⟩ = some (.float .f64 x0) := cx
      have cx2 : ((wr.drewN (1 + n1)).setCell ⟨w.heap.size + 1, j, none⟩ (.float .f64 (ldx v k))).cell? ⟨w.heap.size + 1, j, none⟩ = some (.float .f64 (ldx v k)) := by rw [World.cell?_setCell_same (h := cx')]
      clear cx'
      have cf2 := I2.out.free j hlt
      generalize (wr.drewN (1 + n1)).setCell ⟨w.heap.size + 1, j, none⟩ (.float .f64 (ldx v k)) = W2 at *
      generalize ldx v k = X at *
      have hneg : ∀ w : World, (Op.unary .neg (.float .f64 X)).run Try.prog w = .ok (.float .f64 (neg X)) w := unary_neg X PL.out.1
      clear hF rq ra hk LD cx ca cf INV
      go_wp2_with fail
      all_goals
        refine ⟨⟨j + 1, by omega, by go_num, ?_⟩, by simp [intOf]; omega⟩
        first | exact I2.out | exact I2.out.store (n := 0) hlt (.inr rfl) PL.out.neg cx2
    · obtain rfl : j = 4 := by omega
      obtain ⟨x0, c0, p0⟩ := INV.out.got 0 (by decide)
      obtain ⟨x1, c1, p1⟩ := INV.out.got 1 (by decide)
      obtain ⟨x2, c2, p2⟩ := INV.out.got 2 (by decide)
      obtain ⟨x3, c3, p3⟩ := INV.out.got 3 (by decide)
      have P0 := Lib.hid (p0 (by decide)); have P1 := Lib.hid (p1 (by decide)); have P2 := Lib.hid (p2 (by decide)); have P3 := Lib.hid (p3 (by decide))
      have HB := Lib.hid INV.out.below
      clear p0 p1 p2 p3 INV hlt hj
      go_wp2_with fail
      refine (div_any x0 x1 x2 x3 P2.out.1 P3.out.1 _).mono ?_
      rintro e w1 ⟨xq, yq, n1, HD, rfl, rfl⟩
      have HDH := Lib.hid HD
      clear HD
      go_wp2_with fail
      refine (mul_any xq yq x2 x3 _).mono ?_
      rintro e w1 ⟨X, Y, n2, HM, rfl, rfl⟩
      have HMH := Lib.hid HM
      clear HM
      go_wp2_with fail
      refine (csize_any x0 x1 P0.out.1 P1.out.1 _).mono ?_
      rintro e w1 ⟨rfl, rfl⟩
      obtain ⟨s, hs, fs, vs, s0, s1, s2, s3⟩ := size_val P0.out P1.out
      rw [hs]
      obtain ⟨fX, fY, bX, bY⟩ := quo_back P0.out P1.out P2.out P3.out s0 s1 s3 HDH.out HMH.out
      obtain ⟨fo, go, bo, co⟩ : True ∧ True ∧ True ∧ True := ⟨trivial, trivial, trivial, trivial⟩
      have N1 := Lib.hid (fun e most he hm => near_test (e := e) (most := most) P0.out.1 P0.out.2.1 fX fs vs s2 s3 bX he hm)
      have N2 := Lib.hid (fun e most he hm => near_test (e := e) (most := most) P1.out.1 P1.out.2.1 fY fs vs s2 s3 bY he hm)
      clear fX fY bX bY fs vs s0 s1 s2 s3 hs fo go bo co
      go_wp2_with fail
      refine (div_any x2 x3 x2 x3 P2.out.1 P3.out.1 _).mono ?_
      rintro e w1 ⟨xo, yo, n3, HO, rfl, rfl⟩
      have HOH := Lib.hid HO
      clear HO
      go_wp2_with fail
      have OB := Lib.hid (one_back P2.out P3.out HOH.out)
      refine (abs_any _ (fop_sub _ _ _).lt _).mono ?_
      rintro e w1 ⟨rfl, rfl⟩
      have HE1 := fop_sub X x0 (wr.drewN (n1 + n2 + dop BinOp.mul s 4400016835940974592 + n3))
      generalize fop BinOp.sub X x0 (wr.drewN (n1 + n2 + dop BinOp.mul s 4400016835940974592 + n3)) = e1 at *
      have HMO := fop_mul s 4400016835940974592 (wr.drewN (n1 + n2))
      generalize fop BinOp.mul s 4400016835940974592 (wr.drewN (n1 + n2)) = most at *
      have T1 := N1.out e1 most HE1 HMO
      have HMOH := Lib.hid HMO
      clear HMO HE1
      go_wp2_with fail
      refine (abs_any _ (fop_sub _ _ _).lt _).mono ?_
      rintro e w1 ⟨rfl, rfl⟩
      generalize hE2 : fop BinOp.sub Y x1 _ = e2 at *
      have HE2 : FSub Y x1 e2 := by rw [← hE2]; exact fop_sub _ _ _
      have T2 := N2.out e2 most HE2 HMOH.out
      clear hE2 HE2
      go_wp2_with fail
      refine (abs_any _ (fop_sub _ _ _).lt _).mono ?_
      rintro e w1 ⟨rfl, rfl⟩
      generalize hE3 : fop BinOp.sub xo 4607182418800017408 _ = e3 at *
      have HE3 : FSub xo 4607182418800017408 e3 := by rw [← hE3]; exact fop_sub _ _ _
      have T3 := one_test OB.out.1 OB.out.2.2.1 HE3
      clear hE3 HE3
      unfold C50 at T3
      go_wp2_with fail
      refine (abs_any _ HOH.out.lt.2 _).mono ?_
      rintro e w1 ⟨rfl, rfl⟩
      have T4 := zero_test OB.out.2.1 OB.out.2.2.2
      unfold C50 at T4
      go_wp2_with fail
      refine (CpxAwake.awake_any _).mono ?_
      rintro e w4 ⟨rfl, hb⟩
      go_wp2_with fail
      go_ret
      exact ⟨rfl, by first | exact (below_drewN HB.out _).trans (hb.mono HB.out.size)⟩
  all_goals first | rfl | (simp [part]; done)
theorem law (a b c d : Nat) (_ : a < 2 ^ 64) (_ : b < 2 ^ 64) (_ : c < 2 ^ 64) (_ : d < 2 ^ 64) (w : World) :
    Calls Try.prog 8 #[.agg #[.int .u64 (a : Int), .int .u64 (b : Int), .int .u64 (c : Int), .int .u64 (d : Int)]] w fun e w' => e = .returned (.bool true) ∧ Below w.heap.size w w' := cpxQuotients_walk a b c d w
end Quo
end Go.Proofs.Ytmfmgofafamemaa
