/- The walk of CpxWholes: of any two complex numbers' bits and any power the law answers true. -/
import Derived.Test.YtokmommlabdcdaaMSum
import Derived.Test.YtokmommlabdcdaaMCpx
import Derived.Test.YtokmommlabdcdaaMFlRel
import Derived.Test.YtokmommlabdcdaaMBig11
import Derived.Test.YtokmommlabdcdaaMQuiet
set_option linter.unusedVariables false
set_option linter.unusedSimpArgs false
set_option linter.unusedVariables false
set_option linter.unusedSimpArgs false
namespace Go.Proofs.Ytokmommlabdcdaa
open Wd Fl Go.RowKit
@[go_sem] theorem run_store_complexW {P : Program} (w : World) (ad : Addr) (m : Mode) (k : FloatKind) (a b : Nat) : (store ad (.complex k a b) m).run P w = stored P w ad (.complex k a b) m := run_store P w ad _ m rfl
theorem bal' {w W : World} {c : Obj} (h : Below w.heap.size w W) : Below w.heap.size w (W.alloc c) := h.trans (((Below.refl _ _).alloc (Nat.le_refl _) c).mono h.size)
theorem bwr' {w W W' : World} {b lo hi : Nat} (h : Below w.heap.size w W) (g : Wr b lo hi W W') (hb : w.heap.size ≤ b) : Below w.heap.size w W' := h.trans (g.below hb h.size)
theorem znew' (w : World) : ZAt TW (w.alloc (.cells #[.bool false, .slice none 0 0] 45)) w.heap.size 0 2 := ZAt.new TW w _ _ (by decide) 2 (by decide)
theorem bnew' (w : World) (c : Obj) : Below w.heap.size w (w.alloc c) := (Below.refl _ _).alloc (Nat.le_refl _) _
theorem newW' {w w1 : World} {c : Obj} {n : Nat} (h : Wr w.heap.size 0 n (w.alloc c) w1) : Below w.heap.size w w1 := (bnew' w c).trans (h.below (Nat.le_refl _) (by simp))
/-- the square of a small number -/
theorem square_any (x : Int) (w : World) (h : x.natAbs < 2 ^ 62) :
    Calls Try.prog 18 #[.int .i64 x] w (NewRet TW (x * x) w) := by
  have H := Lib.hid h
  have HB : Hid (bl x ≤ 62) := Lib.hid (blen_of_lt h)
  clear h
  go_enter Try.func18, Try.ntmps18
  go_wp2_with fail
  refine (newInt_any x _ (by have := H.out; omega) (by have := H.out; omega)).mono ?_
  rintro e w1 ⟨b1, rfl, hb1, hi, hb⟩
  have Z1 := Lib.hid ((znew' w).below hb)
  have I1 := Lib.hid hi
  have B1 := Lib.hid ((bnew' w _).trans (hb.mono (bnew' w _).size))
  clear hb1 hi hb
  go_wp2_with fail
  refine (newInt_any x w1 (by have := H.out; omega) (by have := H.out; omega)).mono ?_
  rintro e w2 ⟨b2, rfl, hb2, hi, hb⟩
  have Z2 := Lib.hid (Z1.out.below hb)
  have I2 := Lib.hid (I1.out.below hb)
  have J2 := Lib.hid hi
  have B2 := Lib.hid (B1.out.trans (hb.mono B1.out.size))
  clear hb2 hi hb
  go_wp2_with fail
  refine (imul_any w.heap.size 0 b1 0 b2 0 x x w2 Z2.out I2.out J2.out (Nat.le_trans HB.out (by decide)) (Nat.le_trans HB.out (by decide)) (.inl (Nat.le_trans HB.out (by decide)))).mono ?_
  rintro e w3 ⟨rfl, hi, hr⟩
  have I3 := Lib.hid hi
  have B3 := Lib.hid (bwr' B2.out hr (Nat.le_refl _))
  clear hi hr
  go_wp2_with fail
  go_ret
  exact ⟨_, rfl, Nat.le_refl _, I3.out, B3.out⟩
theorem exists_mulR (a b c d : Nat) (w : World) : ∃ x y, MulR a b c d x y := ⟨_, _, _, _, _, _, fop_mul _ _ w, fop_mul _ _ w, fop_sub _ _ w, fop_mul _ _ w, fop_mul _ _ w, fop_add _ _ w⟩
theorem exists_divR (a b c d : Nat) (w : World) : ∃ x y, DivR a b c d x y := by
  cases hg : geB (rg c) (rg d)
  · exact ⟨_, _, .inr ⟨hg, _, _, _, _, _, _, _, fop_div _ _ w, fop_mul _ _ w, fop_add _ _ w, fop_mul _ _ w, fop_add _ _ w, fop_div _ _ w, fop_mul _ _ w, fop_sub _ _ w, fop_div _ _ w⟩⟩
  · exact ⟨_, _, .inl ⟨hg, _, _, _, _, _, _, _, fop_div _ _ w, fop_mul _ _ w, fop_add _ _ w, fop_mul _ _ w, fop_add _ _ w, fop_div _ _ w, fop_mul _ _ w, fop_sub _ _ w, fop_div _ _ w⟩⟩
theorem and62w (x : Int) : 0 ≤ bits .and .i64 x 4611686018427387903 ∧ bits .and .i64 x 4611686018427387903 ≤ 4611686018427387903 := by
  have h : (BitVec.ofInt 64 x &&& BitVec.ofInt 64 4611686018427387903).toNat ≤ 4611686018427387903 := by
    rw [BitVec.toNat_and]
    exact Nat.and_le_right
  show 0 ≤ IntKind.i64.wrap ((BitVec.ofInt 64 x &&& BitVec.ofInt 64 4611686018427387903).toNat : Int) ∧ IntKind.i64.wrap ((BitVec.ofInt 64 x &&& BitVec.ofInt 64 4611686018427387903).toNat : Int) ≤ 4611686018427387903
  rw [IntKind.wrap_i64]
  omega
theorem abs_mul_le {x y : Int} {B C : Nat} (hx : x.natAbs ≤ B) (hy : y.natAbs ≤ C) : (x * y).natAbs ≤ B * C := by rw [Int.natAbs_mul]; exact Nat.mul_le_mul hx hy
theorem i64_ok {x : Int} (h : x.natAbs < 2 ^ 62) : IntKind.i64.wrap x = x := IntWalk.i64_in _ (by omega)
/-- two boxed pairs: their cells -/
theorem box2w (w : World) (t : TypeId) (a b c d : Value) :
    ((w.alloc (.cells #[a, b] t)).alloc (.cells #[c, d] t)).cell? ⟨w.heap.size, 0, none⟩ = some a ∧ ((w.alloc (.cells #[a, b] t)).alloc (.cells #[c, d] t)).cell? ⟨w.heap.size, 1, none⟩ = some b ∧ ((w.alloc (.cells #[a, b] t)).alloc (.cells #[c, d] t)).cell? ⟨w.heap.size + 1, 0, none⟩ = some c ∧ ((w.alloc (.cells #[a, b] t)).alloc (.cells #[c, d] t)).cell? ⟨w.heap.size + 1, 1, none⟩ = some d := by
  have h1 : ((w.alloc (.cells #[a, b] t)).alloc (.cells #[c, d] t)).heap[w.heap.size]? = some (.cells #[a, b] t) := by
    have := heap_alloc_old (w.alloc (.cells #[a, b] t)) (.cells #[c, d] t) (r := w.heap.size) (by simp)
    rw [this, heap_alloc_new]
  have h2 : ((w.alloc (.cells #[a, b] t)).alloc (.cells #[c, d] t)).heap[w.heap.size + 1]? = some (.cells #[c, d] t) := by
    have := heap_alloc_new (w.alloc (.cells #[a, b] t)) (.cells #[c, d] t)
    rwa [show (w.alloc (.cells #[a, b] t)).heap.size = w.heap.size + 1 by simp] at this
  refine ⟨?_, ?_, ?_, ?_⟩
  · rw [cell_of_row _ _ _ _ _ _ h1]; rfl
  · rw [cell_of_row _ _ _ _ _ _ h1]; rfl
  · rw [cell_of_row _ _ _ _ _ _ h2]; rfl
  · rw [cell_of_row _ _ _ _ _ _ h2]; rfl
/-- what the walk keeps of the numbers -/
structure Wn (A B C D : Nat) (a b c d s1 s2 t1 t2 ac bd ad bc p q : Int) : Prop where
  ia : IsI A a
  ib : IsI B b
  ic : IsI C c
  id : IsI D d
  ba : a.natAbs ≤ 2 ^ 23
  bb : b.natAbs ≤ 2 ^ 23
  bc' : c.natAbs ≤ 2 ^ 23
  bd' : d.natAbs ≤ 2 ^ 23
  e1 : s1 = a + c
  e2 : s2 = b + d
  e3 : t1 = a - c
  e4 : t2 = b - d
  eac : ac = a * c
  ebd : bd = b * d
  ead : ad = a * d
  ebc : bc = b * c
  ep : p = ac - bd
  eq : q = ad + bc
theorem Wn.prods {A B C D : Nat} {a b c d s1 s2 t1 t2 ac bd ad bc p q : Int} (h : Wn A B C D a b c d s1 s2 t1 t2 ac bd ad bc p q) : ac.natAbs ≤ 2 ^ 46 ∧ bd.natAbs ≤ 2 ^ 46 ∧ ad.natAbs ≤ 2 ^ 46 ∧ bc.natAbs ≤ 2 ^ 46 ∧ p.natAbs ≤ 2 ^ 47 ∧ q.natAbs ≤ 2 ^ 47 := by
  have h1 := abs_mul_le h.ba h.bc'
  have h2 := abs_mul_le h.bb h.bd'
  have h3 := abs_mul_le h.ba h.bd'
  have h4 := abs_mul_le h.bb h.bc'
  rw [← h.eac] at h1
  rw [← h.ebd] at h2
  rw [← h.ead] at h3
  rw [← h.ebc] at h4
  have := h.ep
  have := h.eq
  refine ⟨h1, h2, h3, h4, ?_, ?_⟩ <;> omega
theorem Wn.add {A B C D x y : Nat} {a b c d s1 s2 t1 t2 ac bd ad bc p q : Int} (h : Wn A B C D a b c d s1 s2 t1 t2 ac bd ad bc p q) (r : AddR A B C D x y) : IsI x s1 ∧ IsI y s2 := by
  have := h.ba; have := h.bb; have := h.bc'; have := h.bd'
  rw [h.e1, h.e2]
  exact ⟨h.ia.add h.ic r.1 (by omega), h.ib.add h.id r.2 (by omega)⟩
theorem Wn.sub {A B C D x y : Nat} {a b c d s1 s2 t1 t2 ac bd ad bc p q : Int} (h : Wn A B C D a b c d s1 s2 t1 t2 ac bd ad bc p q) (r : SubR A B C D x y) : IsI x t1 ∧ IsI y t2 := by
  have := h.ba; have := h.bb; have := h.bc'; have := h.bd'
  rw [h.e3, h.e4]
  exact ⟨h.ia.sub h.ic r.1 (by omega), h.ib.sub h.id r.2 (by omega)⟩
theorem Wn.mul {A B C D x y : Nat} {a b c d s1 s2 t1 t2 ac bd ad bc p q : Int} (h : Wn A B C D a b c d s1 s2 t1 t2 ac bd ad bc p q) (r : MulR A B C D x y) : IsI x p ∧ IsI y q := by
  obtain ⟨g1, g2, g3, g4, g5, g6⟩ := h.prods
  obtain ⟨e, f, k, l, E1, E2, E3, E4, E5, E6⟩ := r
  have a1 := h.ia.mul h.ic E1 (by rw [← h.eac]; omega)
  have a2 := h.ib.mul h.id E2 (by rw [← h.ebd]; omega)
  have a4 := h.ia.mul h.id E4 (by rw [← h.ead]; omega)
  have a5 := h.ib.mul h.ic E5 (by rw [← h.ebc]; omega)
  rw [← h.eac] at a1
  rw [← h.ebd] at a2
  rw [← h.ead] at a4
  rw [← h.ebc] at a5
  rw [h.ep, h.eq]
  exact ⟨a1.sub a2 E3 (by rw [← h.ep]; omega), a4.add a5 E6 (by rw [← h.eq]; omega)⟩
theorem same_fin {x y : Nat} (h : Same x y) (hx : fin x) : y = x := by
  rcases h with h | ⟨h, _⟩
  · exact h.symm
  · exfalso; unfold isNan at h; unfold fin at hx; omega
theorem eq_iv {x y : Nat} (hx : fin x) (hy : fin y) (h : iv x = iv y) : (FloatKind.f64.format.order x y == some Ordering.eq) = true := by
  have e : D.order x y = some (compare (iv x) (iv y)) := order_fin x y hx hy
  rw [show FloatKind.f64.format.order x y = some (compare (iv x) (iv y)) from e, h, Int.compare_eq_eq.2 rfl]
  rfl
/-- the unit of a round: its words, and what they are -/
def UnitAt (U u : Nat) (wr : World) (g j gc gd : Nat) : Prop := wr.cell? ⟨g, j, none⟩ = some (.complex .f64 gc gd) ∧ ∃ m n : Int, IsV gc (m * ((2 ^ u : Nat) : Int)) ∧ IsV gd (n * ((2 ^ u : Nat) : Int)) ∧ Un m n
def Units (U : Nat) (wr : World) (g : Nat) : Prop := wr.cell? ⟨g, 0, none⟩ = some (.complex .f64 U 0) ∧ wr.cell? ⟨g, 1, none⟩ = some (.complex .f64 0 U) ∧ wr.cell? ⟨g, 2, none⟩ = some (.complex .f64 (neg U) 0) ∧ wr.cell? ⟨g, 3, none⟩ = some (.complex .f64 0 (neg U))
theorem Units.at {U u g j : Nat} {wr : World} (h : Units U wr g) (hU : IsV U (1 * ((2 ^ u : Nat) : Int))) (hj : j < 4) : ∃ gc gd, UnitAt U u wr g j gc gd := by
  have z : IsV 0 (0 * ((2 ^ u : Nat) : Int)) := by rw [Int.zero_mul]; exact ⟨by decide, by decide, iv_zero⟩
  have n : IsV (neg U) (-1 * ((2 ^ u : Nat) : Int)) := by rw [Int.neg_mul]; exact hU.neg
  obtain ⟨h0, h1, h2, h3⟩ := h
  match j, hj with
  | 0, _ => exact ⟨_, _, h0, 1, 0, hU, z, .inl ⟨rfl, rfl⟩⟩
  | 1, _ => exact ⟨_, _, h1, 0, 1, z, hU, .inr (.inl ⟨rfl, rfl⟩)⟩
  | 2, _ => exact ⟨_, _, h2, -1, 0, n, z, .inr (.inr (.inl ⟨rfl, rfl⟩))⟩
  | 3, _ => exact ⟨_, _, h3, 0, -1, z, n, .inr (.inr (.inr ⟨rfl, rfl⟩))⟩
theorem Units.drewN {U g : Nat} {wr : World} (h : Units U wr g) (n : Nat) : Units U (wr.drewN n) g := h
theorem Units.start (U : Nat) (w : World) (t : TypeId) : Units U (w.alloc (.cells #[.complex .f64 U 0, .complex .f64 0 U, .complex .f64 (neg U) 0, .complex .f64 0 (neg U)] t)) w.heap.size := by
  have h := heap_alloc_new w (.cells #[.complex .f64 U 0, .complex .f64 0 U, .complex .f64 (neg U) 0, .complex .f64 0 (neg U)] t)
  refine ⟨?_, ?_, ?_, ?_⟩ <;> (rw [cell_of_row _ _ _ _ _ _ h]; rfl)
/-- the four quiet calls of a round, and its tests -/
structure Rnd (A B gc gd x0 y0 x1 y1 x2 y2 x3 y3 : Nat) : Prop where
  m1 : ∀ W, Calls Try.prog 14 #[.complex .f64 A B, .complex .f64 gc gd] W fun e w' => e = .returned (.complex .f64 x0 y0) ∧ ∃ n, w' = W.drewN n
  d1 : ∀ W, Calls Try.prog 16 #[.complex .f64 x0 y0, .complex .f64 gc gd] W fun e w' => e = .returned (.complex .f64 x1 y1) ∧ ∃ n, w' = W.drewN n
  d2 : ∀ W, Calls Try.prog 16 #[.complex .f64 A B, .complex .f64 gc gd] W fun e w' => e = .returned (.complex .f64 x2 y2) ∧ ∃ n, w' = W.drewN n
  m2 : ∀ W, Calls Try.prog 14 #[.complex .f64 x2 y2, .complex .f64 gc gd] W fun e w' => e = .returned (.complex .f64 x3 y3) ∧ ∃ n, w' = W.drewN n
  e1 : (FloatKind.f64.format.order x1 A == some Ordering.eq) = true
  e2 : (FloatKind.f64.format.order y1 B == some Ordering.eq) = true
  e3 : (FloatKind.f64.format.order x3 A == some Ordering.eq) = true
  e4 : (FloatKind.f64.format.order y3 B == some Ordering.eq) = true
theorem mul_det {a b c d x y : Nat} (h : MulR a b c d x y) (fx : fin x) (fy : fin y) (W : World) :
    Calls Try.prog 14 #[.complex .f64 a b, .complex .f64 c d] W fun e w' => e = .returned (.complex .f64 x y) ∧ ∃ n, w' = W.drewN n := by
  refine (mul_any a b c d W).mono ?_
  rintro e w' ⟨x', y', n, r, rfl, rfl⟩
  have s := MulR.cong h r (.refl _ _) (.refl _ _)
  rw [same_fin s.1 fx, same_fin s.2 fy]
  exact ⟨rfl, n, rfl⟩
theorem div_det {a b c d x y : Nat} (h : DivR a b c d x y) (hc : c < 2 ^ 64) (hd : d < 2 ^ 64) (fx : fin x) (fy : fin y) (W : World) :
    Calls Try.prog 16 #[.complex .f64 a b, .complex .f64 c d] W fun e w' => e = .returned (.complex .f64 x y) ∧ ∃ n, w' = W.drewN n := by
  refine (div_any a b c d hc hd W).mono ?_
  rintro e w' ⟨x', y', n, r, rfl, rfl⟩
  have s := DivR.cong h r (.refl _ _) (.refl _ _)
  rw [same_fin s.1 fx, same_fin s.2 fy]
  exact ⟨rfl, n, rfl⟩
theorem fin_of_unit {x y : Nat} (h : iv x = iv y) (hx : fin x) : fin x := hx
theorem round_of {A B gc gd u : Nat} {ma mb m n : Int} (ia : IsI A ma) (ib : IsI B mb) (ba : ma.natAbs ≤ 2 ^ 23) (bb : mb.natAbs ≤ 2 ^ 23) (hc : IsV gc (m * ((2 ^ u : Nat) : Int))) (hd : IsV gd (n * ((2 ^ u : Nat) : Int))) (hu : Un m n) (hu1 : 900 ≤ u) (hu2 : u ≤ 1200) (w : World) :
    ∃ x0 y0 x1 y1 x2 y2 x3 y3, Rnd A B gc gd x0 y0 x1 y1 x2 y2 x3 y3 := by
  obtain ⟨x0, y0, M1⟩ := exists_mulR A B gc gd w
  obtain ⟨x1, y1, D1⟩ := exists_divR x0 y0 gc gd w
  obtain ⟨x2, y2, D2⟩ := exists_divR A B gc gd w
  obtain ⟨x3, y3, M2⟩ := exists_mulR x2 y2 gc gd w
  obtain ⟨k1, k2, k3, k4, k5, k6⟩ := unit_back ia ib hc hd ba bb hu hu1 hu2 M1 D1
  obtain ⟨l1, l2, l3, l4, l5, l6⟩ := unit_forth ia ib hc hd ba bb hu hu1 hu2 D2 M2
  exact ⟨x0, y0, x1, y1, x2, y2, x3, y3, mul_det M1 k1 k2, div_det D1 hc.2.1 hd.2.1 k3 k4, div_det D2 hc.2.1 hd.2.1 l1 l2, mul_det M2 l3 l4, eq_iv k3 ia.1 k5, eq_iv k4 ib.1 k6, eq_iv l3 ia.1 l5, eq_iv l4 ib.1 l6⟩
theorem sq_bl' {x : Int} (h : x.natAbs < 2 ^ 62) : bl (x * x) ≤ 124 := by
  have h1 : bl x ≤ 62 := blen_of_lt h
  have := bl_mul x x
  omega
theorem sq_bl {x : Int} (h : x.natAbs < 2 ^ 62) : bl (x * x) ≤ 100000 := Nat.le_trans (sq_bl' h) (by decide)
theorem two_squares {A B C D : Nat} {a b c d s1 s2 t1 t2 ac bd ad bc p q : Int} (h : Wn A B C D a b c d s1 s2 t1 t2 ac bd ad bc p q) : cmpZ (p * p + q * q) ((a * a + b * b) * (c * c + d * d)) = 0 := by
  have e : p * p + q * q = (a * a + b * b) * (c * c + d * d) := by
    rw [h.ep, h.eq, h.eac, h.ebd, h.ead, h.ebc]
    grind
  rw [e]; unfold cmpZ; rw [if_neg (by omega), if_neg (by omega)]
theorem unit_word (K : Int) (h1 : -100 ≤ K) (h2 : K ≤ 99) : ∃ u : Nat, (900 ≤ u ∧ u ≤ 1200) ∧ IsV (ldx 4607182418800017408 K) (1 * ((2 ^ u : Nat) : Int)) := by
  have e1 : rg 4607182418800017408 = 1023 * 2 ^ 52 := by decide
  obtain ⟨k, hk⟩ : ∃ k : Nat, (1023 : Int) + K = k := ⟨(1023 + K).toNat, by omega⟩
  have e2 : ldx 4607182418800017408 K = wd false (k * 2 ^ 52) := by
    unfold ldx
    rw [e1, show sg 4607182418800017408 = false by decide]
    congr 1
    omega
  refine ⟨52 + (k - 1), by omega, ?_⟩
  rw [e2, Int.one_mul]
  have hi : k * 2 ^ 52 < INF := by unfold INF; omega
  refine ⟨fin_wd hi, wd_lt _ _ (Nat.lt_trans hi INF_63), ?_⟩
  rw [iv_wd hi, if_neg (by simp), valR_binade (by omega)]
set_option maxRecDepth 100000 in
set_option maxHeartbeats 8000000 in
theorem cpxWholes_walk (a b c d : Nat) (power : Int) (ha : a < 2 ^ 64) (hb : b < 2 ^ 64) (hc : c < 2 ^ 64) (hd : d < 2 ^ 64) (_ : -9223372036854775808 ≤ power) (_ : power < 9223372036854775808) (w : World) :
    Calls Try.prog 4 #[.agg #[.int .u64 a, .int .u64 b], .agg #[.int .u64 c, .int .u64 d], .int .i64 power] w fun e w' => e = .returned (.bool true) ∧ Below w.heap.size w w' := by
  have La := Lib.hid ha
  have Lb := Lib.hid hb
  have Lc := Lib.hid hc
  have Ld := Lib.hid hd
  obtain ⟨A, hA⟩ : ∃ A, wh a = A := ⟨_, rfl⟩
  obtain ⟨B, hB⟩ : ∃ A, wh b = A := ⟨_, rfl⟩
  obtain ⟨C, hC⟩ : ∃ A, wh c = A := ⟨_, rfl⟩
  obtain ⟨D, hD⟩ : ∃ A, wh d = A := ⟨_, rfl⟩
  obtain ⟨ma, hma⟩ : ∃ A, whI a = A := ⟨_, rfl⟩
  obtain ⟨mb, hmb⟩ : ∃ A, whI b = A := ⟨_, rfl⟩
  obtain ⟨mc, hmc⟩ : ∃ A, whI c = A := ⟨_, rfl⟩
  obtain ⟨md, hmd⟩ : ∃ A, whI d = A := ⟨_, rfl⟩
  have wn : Wn A B C D ma mb mc md (ma + mc) (mb + md) (ma - mc) (mb - md) (ma * mc) (mb * md) (ma * md) (mb * mc) (ma * mc - mb * md) (ma * md + mb * mc) :=
    ⟨by rw [← hA, ← hma]; exact wh_isI _, by rw [← hB, ← hmb]; exact wh_isI _, by rw [← hC, ← hmc]; exact wh_isI _, by rw [← hD, ← hmd]; exact wh_isI _, by rw [← hma]; exact whI_bound _, by rw [← hmb]; exact whI_bound _, by rw [← hmc]; exact whI_bound _, by rw [← hmd]; exact whI_bound _, rfl, rfl, rfl, rfl, rfl, rfl, rfl, rfl, rfl, rfl⟩
  have f1 : IntKind.i64.wrap (ma + mc) = ma + mc := i64_ok (by have := wn.ba; have := wn.bc'; omega)
  have f2 : IntKind.i64.wrap (mb + md) = mb + md := i64_ok (by have := wn.bb; have := wn.bd'; omega)
  have f3 : IntKind.i64.wrap (ma - mc) = ma - mc := i64_ok (by have := wn.ba; have := wn.bc'; omega)
  have f4 : IntKind.i64.wrap (mb - md) = mb - md := i64_ok (by have := wn.bb; have := wn.bd'; omega)
  obtain ⟨pr1, pr2, pr3, pr4, pr5, pr6⟩ := wn.prods
  have f5 : IntKind.i64.wrap (ma * mc) = ma * mc := i64_ok (by omega)
  have f6 : IntKind.i64.wrap (mb * md) = mb * md := i64_ok (by omega)
  have f7 : IntKind.i64.wrap (ma * md) = ma * md := i64_ok (by omega)
  have f8 : IntKind.i64.wrap (mb * mc) = mb * mc := i64_ok (by omega)
  have f9 : IntKind.i64.wrap (ma * mc - mb * md) = ma * mc - mb * md := i64_ok (by omega)
  have f10 : IntKind.i64.wrap (ma * md + mb * mc) = ma * md + mb * mc := i64_ok (by omega)
  obtain ⟨s1, hs1⟩ : ∃ v, ma + mc = v := ⟨_, rfl⟩
  obtain ⟨s2, hs2⟩ : ∃ v, mb + md = v := ⟨_, rfl⟩
  obtain ⟨t1, ht1⟩ : ∃ v, ma - mc = v := ⟨_, rfl⟩
  obtain ⟨t2, ht2⟩ : ∃ v, mb - md = v := ⟨_, rfl⟩
  obtain ⟨ac, hac⟩ : ∃ v, ma * mc = v := ⟨_, rfl⟩
  obtain ⟨bd, hbd⟩ : ∃ v, mb * md = v := ⟨_, rfl⟩
  obtain ⟨ad, had⟩ : ∃ v, ma * md = v := ⟨_, rfl⟩
  obtain ⟨bc, hbc⟩ : ∃ v, mb * mc = v := ⟨_, rfl⟩
  rw [hs1] at f1 wn
  rw [hs2] at f2 wn
  rw [ht1] at f3 wn
  rw [ht2] at f4 wn
  rw [hac, hbd] at f9
  rw [had, hbc] at f10
  rw [hac] at f5
  rw [hbd] at f6
  rw [had] at f7
  rw [hbc] at f8
  rw [hac, hbd, had, hbc] at wn
  obtain ⟨p, hp⟩ : ∃ v, ac - bd = v := ⟨_, rfl⟩
  obtain ⟨q, hq⟩ : ∃ v, ad + bc = v := ⟨_, rfl⟩
  rw [hp] at f9 wn
  rw [hq] at f10 wn
  have g1 : IntKind.i64.wrap (ma + mc) = s1 := by rw [hs1]; exact f1
  have g2 : IntKind.i64.wrap (mb + md) = s2 := by rw [hs2]; exact f2
  have g3 : IntKind.i64.wrap (ma - mc) = t1 := by rw [ht1]; exact f3
  have g4 : IntKind.i64.wrap (mb - md) = t2 := by rw [ht2]; exact f4
  have g5 : IntKind.i64.wrap (ma * mc) = ac := by rw [hac]; exact f5
  have g6 : IntKind.i64.wrap (mb * md) = bd := by rw [hbd]; exact f6
  have g7 : IntKind.i64.wrap (ma * md) = ad := by rw [had]; exact f7
  have g8 : IntKind.i64.wrap (mb * mc) = bc := by rw [hbc]; exact f8
  have g9 : IntKind.i64.wrap (ac - bd) = p := by rw [hp]; exact f9
  have g10 : IntKind.i64.wrap (ad + bc) = q := by rw [hq]; exact f10
  have WN := Lib.hid wn
  have k1 := fun W => conv_isI wn.ia (by have := wn.ba; omega) W
  have k2 := fun W => conv_isI wn.ib (by have := wn.bb; omega) W
  have k3 := fun W => conv_isI wn.ic (by have := wn.bc'; omega) W
  have k4 := fun W => conv_isI wn.id (by have := wn.bd'; omega) W
  obtain ⟨K, hK, hK1, hK2⟩ : ∃ K : Int, IntKind.i64.wrap ((bits .and .i64 power 4611686018427387903).tmod 200 - 100) = K ∧ -100 ≤ K ∧ K ≤ 99 := by
    have h := and62w power
    refine ⟨_, rfl, ?_⟩
    rw [Int.tmod_eq_emod_of_nonneg h.1, IntKind.wrap_i64]
    omega
  have HA := Lib.hid hA
  have HB := Lib.hid hB
  have HC := Lib.hid hC
  have HD := Lib.hid hD
  have Q := Lib.hid (box2w w 35 (.int .u64 a) (.int .u64 b) (.int .u64 c) (.int .u64 d))
  have KB := Lib.hid (And.intro hK1 hK2)
  obtain ⟨q1, q2, q3, q4⟩ := Q.out
  clear ha hb hc hd hA hB hC hD hma hmb hmc hmd wn f1 f2 f3 f4 f5 f6 f7 f8 f9 f10 pr1 pr2 pr3 pr4 pr5 pr6 hs1 hs2 ht1 ht2 hac hbd had hbc hp hq hK1 hK2 Q
  go_enter Try.func4, Try.ntmps4
  go_wp2_with fail
  refine (lwhole_any a La.out _).mono ?_
  rintro e w' ⟨rfl, rfl⟩
  rw [HA.out]
  go_wp2_with fail
  refine (lwhole_any b Lb.out _).mono ?_
  rintro e w' ⟨rfl, rfl⟩
  rw [HB.out]
  go_wp2_with fail
  refine (lwhole_any c Lc.out _).mono ?_
  rintro e w' ⟨rfl, rfl⟩
  rw [HC.out]
  go_wp2_with fail
  refine (lwhole_any d Ld.out _).mono ?_
  rintro e w' ⟨rfl, rfl⟩
  rw [HD.out]
  clear HA HB HC HD La Lb Lc Ld
  go_wp2_with fail
  refine (add_any A B C D _).mono ?_
  rintro e w1 ⟨x1, y1, n1, R1, rfl, hw1⟩
  have i1 := WN.out.add R1
  have k5 := fun W => conv_isI i1.1 (by have := WN.out.e1; have := WN.out.ba; have := WN.out.bc'; omega) W
  have k6 := fun W => conv_isI i1.2 (by have := WN.out.e2; have := WN.out.bb; have := WN.out.bd'; omega) W
  have B1 : Hid (Below w.heap.size w w1) := Lib.hid (by rw [hw1]; exact below_drewN (bal' (bal' (Below.refl _ w))) _)
  clear R1 i1 hw1
  go_wp2_with fail
  refine (sub_any A B C D _).mono ?_
  rintro e w2 ⟨x2, y2, n2, R2, rfl, hw2⟩
  have i2 := WN.out.sub R2
  have k7 := fun W => conv_isI i2.1 (by have := WN.out.e3; have := WN.out.ba; have := WN.out.bc'; omega) W
  have k8 := fun W => conv_isI i2.2 (by have := WN.out.e4; have := WN.out.bb; have := WN.out.bd'; omega) W
  have B2 : Hid (Below w.heap.size w w2) := Lib.hid (by rw [hw2]; exact below_drewN B1.out _)
  clear R2 i2 hw2
  go_wp2_with fail
  refine (mul_any A B C D _).mono ?_
  rintro e w3 ⟨x3, y3, n3, R3, rfl, hw3⟩
  have i3 := WN.out.mul R3
  obtain ⟨pr1, pr2, pr3, pr4, pr5, pr6⟩ := WN.out.prods
  have k9 := fun W => conv_isI i3.1 (by omega) W
  have k10 := fun W => conv_isI i3.2 (by omega) W
  have B3 : Hid (Below w.heap.size w w3) := Lib.hid (by rw [hw3]; exact below_drewN B2.out _)
  clear R3 i3 hw3 pr1 pr2 pr3 pr4 pr5 pr6
  go_wp2_with fail
  have r1 : rg 4607182418800017408 / 2 ^ 52 = 1023 := by decide
  refine (ldexp_any 4607182418800017408 K (by decide) (by decide) (by decide) (by rw [r1]; have := KB.out; omega) (by rw [r1]; have := KB.out; omega) w3).mono ?_
  clear r1
  rintro e w4 ⟨rfl, n4, hw4⟩
  obtain ⟨u, hu, UV⟩ := unit_word K KB.out.1 KB.out.2
  have B4 : Hid (Below w.heap.size w w4) := Lib.hid (by rw [hw4]; exact below_drewN B3.out _)
  obtain ⟨U, hU⟩ : ∃ U, ldx 4607182418800017408 K = U := ⟨_, rfl⟩
  rw [hU] at UV ⊢
  have un := unary_neg U UV.2.1
  have HU := Lib.hid hu
  have HUV := Lib.hid UV
  clear hw4 hU hu UV
  go_wp2_with fail
  have LG := Lib.hid B4.out.size
  go_loopw [20] (fun i wr => ∃ j : Nat, j ≤ 4 ∧ i = .int .i64 j ∧ Units U wr w4.heap.size ∧ Below w.heap.size w wr) (fun i _ => 4 - (intOf i).toNat)
  case atStart => exact ⟨0, by omega, rfl, Units.start U w4 _, bal' B4.out⟩
  case round =>
    obtain ⟨j, hj, rfl, hun, hbr⟩ := hrel
    have BR := Lib.hid hbr
    have HUN := Lib.hid hun
    clear hbr hun
    by_cases hlt : j < 4
    · have hlt' : (j : Int) < 4 := by omega
      obtain ⟨gc, gd, cu, m, n, vc, vd, hmn⟩ := HUN.out.at HUV.out hlt
      obtain ⟨z1, z2, z3, z4, z5, z6, z7, z8, rnd⟩ := round_of WN.out.ia WN.out.ib WN.out.ba WN.out.bb vc vd hmn HU.out.1 HU.out.2 wr
      have M1 := Lib.hid rnd.m1
      have D1 := Lib.hid rnd.d1
      have D2 := Lib.hid rnd.d2
      have M2 := Lib.hid rnd.m2
      have e1 := rnd.e1
      have e2 := rnd.e2
      have e3 := rnd.e3
      have e4 := rnd.e4
      clear vc vd hmn rnd k1 k2 k3 k4 k5 k6 k7 k8 k9 k10 g1 g2 g3 g4 g5 g6 g7 g8 g9 g10 hK un q1 q2 q3 q4
      go_wp2_with fail
      go_quiet ((first
        | (go_at_call 14; first | (with_reducible exact Calls.quiet_of (M1.out _)) | (with_reducible exact quiet_add (M1.out _)) | (with_reducible exact Calls.quiet_of (M2.out _)) | (with_reducible exact quiet_add (M2.out _)))
        | (go_at_call 16; first | (with_reducible exact Calls.quiet_of (D1.out _)) | (with_reducible exact quiet_add (D1.out _)) | (with_reducible exact Calls.quiet_of (D2.out _)) | (with_reducible exact quiet_add (D2.out _)))))
      go_wp2_with fail
      all_goals
        exact ⟨⟨j + 1, by omega, by go_num, HUN.out.drewN _, below_drewN BR.out _⟩, by simp [intOf]; omega⟩
    · obtain rfl : j = 4 := by omega
      clear hj hlt
      have bp : p.natAbs < 2 ^ 62 := by obtain ⟨pr1, pr2, pr3, pr4, pr5, pr6⟩ := WN.out.prods; omega
      have bq : q.natAbs < 2 ^ 62 := by obtain ⟨pr1, pr2, pr3, pr4, pr5, pr6⟩ := WN.out.prods; omega
      have HP := Lib.hid bp
      have HQ := Lib.hid bq
      clear bp bq
      have HMA := Lib.hid (show ma.natAbs < 2 ^ 62 by have := WN.out.ba; omega)
      have HMB := Lib.hid (show mb.natAbs < 2 ^ 62 by have := WN.out.bb; omega)
      have HMC := Lib.hid (show mc.natAbs < 2 ^ 62 by have := WN.out.bc'; omega)
      have HMD := Lib.hid (show md.natAbs < 2 ^ 62 by have := WN.out.bd'; omega)
      go_wp2_with fail
      have LBIL := Lib.hid BR.out.size
      refine (square_any p (wr.alloc (.cells #[.bool false, .slice none 0 0] 45)) HP.out).mono ?_
      rintro e waIL ⟨baIL, rfl, hle, hi, hb⟩
      have ZaIL := Lib.hid ((znew' wr).below hb)
      have XaIL := Lib.hid hi
      have BaIL := Lib.hid ((bal' BR.out).trans (hb.mono (bal' BR.out).size))
      clear hle hi hb
      go_wp2_with fail
      refine (square_any q waIL HQ.out).mono ?_
      rintro e wbIL ⟨bbIL, rfl, hle, hi, hb⟩
      have ZbIL := Lib.hid (ZaIL.out.below hb)
      have XbIL := Lib.hid (XaIL.out.below hb)
      have YbIL := Lib.hid hi
      have BbIL := Lib.hid (BaIL.out.trans (hb.mono BaIL.out.size))
      clear hle hi hb
      go_wp2_with fail
      refine (iadd_any wr.heap.size 0 baIL 0 bbIL 0 (p * p) (q * q) wbIL ZbIL.out XbIL.out YbIL.out (sq_bl HP.out) (sq_bl HQ.out)).mono ?_
      rintro e wIL ⟨rfl, hi, hr⟩
      have BIL := Lib.hid (bwr' BbIL.out hr LBIL.out)
      have IL := Lib.hid hi
      clear hi hr
      go_wp2_with fail
      have LTILIF := Lib.hid IL.out.lt
      have LBIF := Lib.hid BIL.out.size
      refine (square_any ma (wIL.alloc (.cells #[.bool false, .slice none 0 0] 45)) HMA.out).mono ?_
      rintro e waIF ⟨baIF, rfl, hle, hi, hb⟩
      have ZaIF := Lib.hid ((znew' wIL).below hb)
      have XaIF := Lib.hid hi
      have BaIF := Lib.hid ((bal' BIL.out).trans (hb.mono (bal' BIL.out).size))
      replace IL := Lib.hid ((IL.out.below (bnew' wIL _)).below hb)
      clear hle hi hb
      go_wp2_with fail
      refine (square_any mb waIF HMB.out).mono ?_
      rintro e wbIF ⟨bbIF, rfl, hle, hi, hb⟩
      have ZbIF := Lib.hid (ZaIF.out.below hb)
      have XbIF := Lib.hid (XaIF.out.below hb)
      have YbIF := Lib.hid hi
      have BbIF := Lib.hid (BaIF.out.trans (hb.mono BaIF.out.size))
      replace IL := Lib.hid (IL.out.below hb)
      clear hle hi hb
      go_wp2_with fail
      refine (iadd_any wIL.heap.size 0 baIF 0 bbIF 0 (ma * ma) (mb * mb) wbIF ZbIF.out XbIF.out YbIF.out (sq_bl HMA.out) (sq_bl HMB.out)).mono ?_
      rintro e wIF ⟨rfl, hi, hr⟩
      have BIF := Lib.hid (bwr' BbIF.out hr LBIF.out)
      replace IL := Lib.hid (IL.out.wr hr ZbIF.out (.inl (Nat.ne_of_lt LTILIF.out)))
      have IF := Lib.hid hi
      clear hi hr
      go_wp2_with fail
      have LTILIS := Lib.hid IL.out.lt
      have LTIFIS := Lib.hid IF.out.lt
      have LBIS := Lib.hid BIF.out.size
      refine (square_any mc (wIF.alloc (.cells #[.bool false, .slice none 0 0] 45)) HMC.out).mono ?_
      rintro e waIS ⟨baIS, rfl, hle, hi, hb⟩
      have ZaIS := Lib.hid ((znew' wIF).below hb)
      have XaIS := Lib.hid hi
      have BaIS := Lib.hid ((bal' BIF.out).trans (hb.mono (bal' BIF.out).size))
      replace IL := Lib.hid ((IL.out.below (bnew' wIF _)).below hb)
      replace IF := Lib.hid ((IF.out.below (bnew' wIF _)).below hb)
      clear hle hi hb
      go_wp2_with fail
      refine (square_any md waIS HMD.out).mono ?_
      rintro e wbIS ⟨bbIS, rfl, hle, hi, hb⟩
      have ZbIS := Lib.hid (ZaIS.out.below hb)
      have XbIS := Lib.hid (XaIS.out.below hb)
      have YbIS := Lib.hid hi
      have BbIS := Lib.hid (BaIS.out.trans (hb.mono BaIS.out.size))
      replace IL := Lib.hid (IL.out.below hb)
      replace IF := Lib.hid (IF.out.below hb)
      clear hle hi hb
      go_wp2_with fail
      refine (iadd_any wIF.heap.size 0 baIS 0 bbIS 0 (mc * mc) (md * md) wbIS ZbIS.out XbIS.out YbIS.out (sq_bl HMC.out) (sq_bl HMD.out)).mono ?_
      rintro e wIS ⟨rfl, hi, hr⟩
      have BIS := Lib.hid (bwr' BbIS.out hr LBIS.out)
      replace IL := Lib.hid (IL.out.wr hr ZbIS.out (.inl (Nat.ne_of_lt LTILIS.out)))
      replace IF := Lib.hid (IF.out.wr hr ZbIS.out (.inl (Nat.ne_of_lt LTIFIS.out)))
      have IS := Lib.hid hi
      clear hi hr
      have hfirst : bl (ma * ma + mb * mb) ≤ 125 := bl_add _ _ 124 (sq_bl' HMA.out) (sq_bl' HMB.out)
      have hsec : bl (mc * mc + md * md) ≤ 125 := bl_add _ _ 124 (sq_bl' HMC.out) (sq_bl' HMD.out)
      have hleft : bl (p * p + q * q) ≤ 125 := bl_add _ _ 124 (sq_bl' HP.out) (sq_bl' HQ.out)
      have HF1 := Lib.hid hfirst
      have HS1 := Lib.hid hsec
      have HL1 := Lib.hid hleft
      clear hfirst hsec hleft
      go_wp2_with fail
      refine (imul_any wIL.heap.size 0 wIL.heap.size 0 wIF.heap.size 0 (ma * ma + mb * mb) (mc * mc + md * md) wIS IF.out.z IF.out IS.out (Nat.le_trans HF1.out (by decide)) (Nat.le_trans HS1.out (by decide)) (.inl (Nat.le_trans HF1.out (by decide)))).mono ?_
      rintro e wM ⟨rfl, hi, hr⟩
      have BM := Lib.hid (bwr' BIS.out hr LBIF.out)
      have ILM := Lib.hid (IL.out.wr hr IF.out.z (.inl (Nat.ne_of_lt LTILIF.out)))
      have IFM := Lib.hid hi
      clear hi hr
      go_wp2_with fail
      refine (cmp_any wr.heap.size 0 wIL.heap.size 0 _ _ wM ILM.out IFM.out (Nat.le_trans HL1.out (by decide)) (by have := bl_mul (ma * ma + mb * mb) (mc * mc + md * md); have := HF1.out; have := HS1.out; omega)).mono ?_
      rintro e wC ⟨rfl, hb⟩
      have BC := Lib.hid (BM.out.trans (hb.mono BM.out.size))
      clear hb
      rw [two_squares WN.out]
      go_wp2_with fail
      refine (CpxAwake.awake_any _).mono ?_
      rintro e wA ⟨rfl, hb⟩
      have BA := Lib.hid (BC.out.trans (hb.mono BC.out.size))
      clear hb
      go_wp2_with fail
      go_ret
      exact ⟨rfl, BA.out⟩
end Go.Proofs.Ytokmommlabdcdaa
