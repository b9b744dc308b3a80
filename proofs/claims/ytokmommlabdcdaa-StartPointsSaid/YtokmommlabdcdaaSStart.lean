/- Contracts of package start: the points as words. -/
import Derived.Test.YtokmommlabdcdaaSCpx
import Derived.Test.YtokmommlabdcdaaSFlRel
import Derived.Deep.QuietTactic
import Derived.BigQuiet
set_option linter.unusedVariables false
set_option linter.unusedSimpArgs false
namespace Go.Proofs.Ytokmommlabdcdaa
open Fl Go.RowKit
@[go_sem] theorem run_store_complex {P : Program} (w : World) (ad : Addr) (m : Mode) (k : FloatKind) (a b : Nat) : (store ad (.complex k a b) m).run P w = stored P w ad (.complex k a b) m := run_store P w ad _ m rfl
theorem fop_eq_quo {x y : Nat} (hx : fin x) (hy : fin y) (h0 : mvF y ≠ 0) (w : World) : fop .quo x y w = divF x y := Res.eq (fop_div x y w) (divF_eq hx hy h0)
theorem fop_eq_mul {x y : Nat} (hx : fin x) (hy : fin y) (w : World) : fop .mul x y w = mulF x y := Res.eq (fop_mul x y w) (mulF_eq hx hy)
theorem fop_eq_add {x y : Nat} (hx : fin x) (hy : fin y) (w : World) : fop .add x y w = addF x y := Res.eq (fop_add x y w) (addF_eq hx hy)
theorem fop_eq_sub {x y : Nat} (hx : fin x) (hy : fin y) (hl : y < 2 ^ 64) (w : World) : fop .sub x y w = subF x y := Res.eq (fop_sub x y w) (subF_eq hx hy hl)
theorem fin_one : fin ONE := by decide
theorem fin_two : fin TWO := by decide
theorem ret_pair {a b a' b' : Nat} (h : a = a') (g : b = b') : Ending.returned (.tuple #[.float .f64 a, .float .f64 b]) = .returned (.tuple #[.float .f64 a', .float .f64 b']) := by rw [h, g]
theorem fact1 {c m : Nat} (h2 : c ≤ 64) (hmc : m < c) : floatOfInt .f64 (5 * (m : Int) + 2) = smI (5 * m + 2) := by
  obtain ⟨s1, _, _⟩ := smI_eq (n := 5 * m + 2) (by omega) (by omega)
  rw [← s1]
  unfold flI
  have : ((5 * m + 2 : Nat) : Int) = 5 * (m : Int) + 2 := by omega
  rw [this]
theorem fact2 {c : Nat} (h1 : 1 ≤ c) (h2 : c ≤ 64) : floatOfInt .f64 (5 * (c : Int)) = smI (5 * c) := by
  obtain ⟨s1, _, _⟩ := smI_eq (n := 5 * c) (by omega) (by omega)
  rw [← s1]
  unfold flI
  have : ((5 * c : Nat) : Int) = 5 * (c : Int) := by omega
  rw [this]
theorem facts {c m : Nat} (h1 : 1 ≤ c) (h2 : c ≤ 64) (hmc : m < c) :
    (∀ w, fop .quo (smI (5 * m + 2)) (smI (5 * c)) w = tW c m) ∧ (∀ w, fop .mul (tW c m) (tW c m) w = ttW c m) ∧ (∀ w, fop .add 4607182418800017408 (ttW c m) w = uW c m) ∧
    (∀ w, fop .sub 4607182418800017408 (ttW c m) w = dW c m) ∧ (∀ w, fop .quo (dW c m) (uW c m) w = xW c m) ∧ (∀ w, fop .mul 4611686018427387904 (tW c m) w = t2W c m) ∧ (∀ w, fop .quo (t2W c m) (uW c m) w = yW c m) := by
  have F := pt_facts h2 hmc
  obtain ⟨_, s2, _⟩ := smI_eq (n := 5 * m + 2) (by omega) (by omega)
  obtain ⟨_, s4, s5⟩ := smI_eq (n := 5 * c) (by omega) (by omega)
  refine ⟨fun w => ?_, fun w => ?_, fun w => ?_, fun w => ?_, fun w => ?_, fun w => ?_, fun w => ?_⟩
  · rw [fop_eq_quo s2 s4 s5]; unfold tW; rfl
  · rw [fop_eq_mul F.t F.t]; unfold ttW; rfl
  · have := fop_eq_add fin_one F.tt w; unfold ONE at this; rw [this]; unfold uW ONE; rfl
  · have := fop_eq_sub fin_one F.tt F.tl w; unfold ONE at this; rw [this]; unfold dW ONE; rfl
  · rw [fop_eq_quo F.d F.u F.u0]; unfold xW; rfl
  · have := fop_eq_mul fin_two F.t w; unfold TWO at this; rw [this]; unfold t2W TWO; rfl
  · rw [fop_eq_quo F.t2 F.u F.u0]; unfold yW; rfl
theorem xW_lt {c m : Nat} (h2 : c ≤ 64) (hmc : m < c) : xW c m < 2 ^ 64 := by
  have := (pt_facts h2 hmc).x.2
  generalize xW c m = x at *
  omega
theorem yW_lt {c m : Nat} (h2 : c ≤ 64) (hmc : m < c) : yW c m < 2 ^ 64 := by
  have := (pt_facts h2 hmc).y.2
  generalize yW c m = x at *
  omega
set_option maxHeartbeats 1000000 in
theorem point_walk (j c q m : Nat) (w : World) (h1 : 1 ≤ c) (h2 : c ≤ 64) (hj : j < c) (hq : 4 * j / c = q) (hm : 4 * j % c = m) :
    Calls Try.prog 27 #[.int .i64 j, .int .i64 c] w fun e w' => e = .returned (.tuple #[.float .f64 (rX q (xW c m) (yW c m)), .float .f64 (rY q (xW c m) (yW c m))]) ∧ ∃ n, w' = w.drewN n := by
  obtain ⟨Q, b1, eQ⟩ : ∃ Q : Int, (4 * (j : Int)) / (c : Int) = Q ∧ Q = q := ⟨_, rfl, by rw [← hq, Int.natCast_ediv, Int.natCast_mul]; rfl⟩
  have b2 : (4 * (j : Int)) % (c : Int) = (m : Int) := by rw [← hm, Int.natCast_emod, Int.natCast_mul]; rfl
  have hmc : m < c := by rw [← hm]; exact Nat.mod_lt _ h1
  have hq4 : q < 4 := by rw [← hq]; exact (Nat.div_lt_iff_lt_mul h1).2 (by omega)
  have f1 := fact1 (c := c) (m := m) h2 hmc
  have f2 := fact2 (c := c) h1 h2
  obtain ⟨g1, g2, g3, g4, g5, g6, g7⟩ := facts h1 h2 hmc
  have n1 := unary_neg (xW c m) (xW_lt h2 hmc)
  have n2 := unary_neg (yW c m) (yW_lt h2 hmc)
  have EQ := Lib.hid eQ
  clear hq hm eQ
  generalize xW c m = X at *
  generalize yW c m = Y at *
  generalize t2W c m = T2 at *
  generalize dW c m = D1 at *
  generalize uW c m = U at *
  generalize ttW c m = TT at *
  generalize tW c m = T at *
  generalize smI (5 * m + 2) = I1 at *
  generalize smI (5 * c) = I2 at *
  have m64 : m < 64 := by omega
  have c0 : (1 : Int) ≤ (c : Int) := by omega
  have j0 : (j : Int) < 64 := by omega
  have c2 : (c : Int) ≤ 64 := by omega
  have hc : Q = 0 ∨ Q = 1 ∨ Q = 2 ∨ Q = 3 := by have := EQ.out; omega
  rcases hc with rfl | rfl | rfl | rfl
  · obtain rfl : q = 0 := by have := EQ.out; omega
    clear EQ
    go_enter Try.func27, Try.ntmps27
    go_wp2
    go_quiet (fail)
    go_wp2
    go_ret2
    exact ⟨ret_pair (by simp [rX]) (by simp [rY]), _, rfl⟩
  · obtain rfl : q = 1 := by have := EQ.out; omega
    clear EQ
    go_enter Try.func27, Try.ntmps27
    go_wp2
    go_quiet (fail)
    go_wp2
    go_ret2
    exact ⟨ret_pair (by simp [rX]) (by simp [rY]), _, rfl⟩
  · obtain rfl : q = 2 := by have := EQ.out; omega
    clear EQ
    go_enter Try.func27, Try.ntmps27
    go_wp2
    go_quiet (fail)
    go_wp2
    go_ret2
    exact ⟨ret_pair (by simp [rX]) (by simp [rY]), _, rfl⟩
  · obtain rfl : q = 3 := by have := EQ.out; omega
    clear EQ
    go_enter Try.func27, Try.ntmps27
    go_wp2
    go_quiet (fail)
    go_wp2
    go_ret2
    exact ⟨ret_pair (by simp [rX]) (by simp [rY]), _, rfl⟩
/-- start.point -/
theorem point_any (j c : Nat) (w : World) (h1 : 1 ≤ c) (h2 : c ≤ 64) (hj : j < c) :
    Calls Try.prog 27 #[.int .i64 j, .int .i64 c] w fun e w' => e = .returned (.tuple #[.float .f64 (wX c j), .float .f64 (wY c j)]) ∧ ∃ n, w' = w.drewN n := by
  rw [wX_eq, wY_eq]
  exact point_walk j c _ _ w h1 h2 hj rfl rfl
end Go.Proofs.Ytokmommlabdcdaa
