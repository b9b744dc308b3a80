/- What the checks of FlRing say of the operations of binary64. No conditions but the count's. -/
import Derived.Test.YtmfmgofafamemaaFlRing
import Derived.Test.YtmfmgofafamemaaFlUlp
namespace Fl
open Go Ieee
theorem fopq_mul {x y : Nat} (hx : fin x) (hy : fin y) (w : World) : fop .mul x y w = mulF x y := Res.eq (fop_mul x y w) (mulF_eq hx hy)
theorem fopq_add {x y : Nat} (hx : fin x) (hy : fin y) (w : World) : fop .add x y w = addF x y := Res.eq (fop_add x y w) (addF_eq hx hy)
theorem fopq_sub {x y : Nat} (hx : fin x) (hy : fin y) (hl : y < 2 ^ 64) (w : World) : fop .sub x y w = subF x y := Res.eq (fop_sub x y w) (subF_eq hx hy hl)
theorem runq_mul {x y : Nat} (hx : fin x) (hy : fin y) (P : Program) (w : World) (t : TypeId) : (binOp .mul t (.float .f64 x) (.float .f64 y)).run P w = .ok (.float .f64 (mulF x y)) w := run_float_arith w .mul t .f64 x y _ (mulF_eq hx hy)
theorem runq_add {x y : Nat} (hx : fin x) (hy : fin y) (P : Program) (w : World) (t : TypeId) : (binOp .add t (.float .f64 x) (.float .f64 y)).run P w = .ok (.float .f64 (addF x y)) w := run_float_arith w .add t .f64 x y _ (addF_eq hx hy)
theorem runq_sub {x y : Nat} (hx : fin x) (hy : fin y) (hl : y < 2 ^ 64) (P : Program) (w : World) (t : TypeId) : (binOp .sub t (.float .f64 x) (.float .f64 y)).run P w = .ok (.float .f64 (subF x y)) w := run_float_arith w .sub t .f64 x y _ (subF_eq hx hy hl)
theorem Mid.fin {x : Nat} (h : Mid x) : fin x := by have := h.hi; unfold Fl.fin INF; omega
theorem chk_list {c : Nat} (hc : c ≤ 64) : chk ((List.range c).map (pt c)) = true := by
  have := chk_all c hc
  rwa [mkL_eq, List.append_nil] at this
theorem pt_get {c i : Nat} (hi : i < c) : ((List.range c).map (pt c))[i]'(by simpa using hi) = pt c i := by simp
theorem chk_parts {c : Nat} (hc : c ≤ 64) : (∀ i, i < c → okS (pt c i) = true) ∧ (∀ i m, m < i → i < c → okA (pt c m) (pt c i) = true) ∧ (2 < c → ∀ i, i < c → okX (pt c i) (pt c ((i + 1) % c)) = true) := by
  have h := chk_list hc
  unfold chk at h
  rw [Bool.and_eq_true, Bool.and_eq_true, Bool.or_eq_true] at h
  obtain ⟨⟨h1, h2⟩, h3⟩ := h
  refine ⟨fun i hi => ?_, fun i m hm hi => ?_, fun h2c i hi => ?_⟩
  · exact (allB_iff _ _).1 h1 (pt c i) (by rw [List.mem_map]; exact ⟨i, List.mem_range.2 hi, rfl⟩)
  · have := prs_at _ h2 m i hm (by simpa using hi)
    rwa [pt_get hi, pt_get (by omega)] at this
  · rcases h3 with h3 | h3
    · rw [Nat.ble_eq] at h3; simp at h3; omega
    · have := nbr_at _ _ h3 i (by simpa using hi)
      rw [pt_get hi] at this
      have e : ((List.range c).map (pt c)).getD (i + 1) (hd ⟨0, 0, 0, 0⟩ ((List.range c).map (pt c))) = pt c ((i + 1) % c) := by
        by_cases l : i + 1 < c
        · rw [List.getD_eq_getElem?_getD, List.getElem?_eq_getElem (by simpa using l), pt_get l, Nat.mod_eq_of_lt l]; rfl
        · have e1 : i + 1 = c := by omega
          rw [List.getD_eq_getElem?_getD, List.getElem?_eq_none (by simp; omega), e1, Nat.mod_self]
          obtain ⟨n, rfl⟩ : ∃ n, c = n + 1 := ⟨c - 1, by omega⟩
          rw [List.range_succ_eq_map]; rfl
      rwa [e] at this
/-- a sum that is far from 0 is not below 2^-20 -/
theorem far_add {x y r : Nat} (hx : fin x) (hy : fin y) (h : FAdd x y r) (hf : pw2 1055 ≤ (iv x + iv y).natAbs) : (Go.FloatKind.f64.format.order (rg r) 4517110426252607488 == some Ordering.lt) = false := by
  have e := Res.eq h (add_fin x y hx hy)
  have hr : 1004 * 2 ^ 52 ≤ rg r := by
    rw [e, rg_wd _ _ (rq_lt _ _)]
    unfold rq
    refine Nat.le_min.2 ⟨le_rungQ (by decide) ?_, by decide⟩
    have v : valR (1004 * 2 ^ 52) = pw2 1055 := by decide +kernel
    rw [v, Nat.mul_one]; exact hf
  have hn : ¬ isNan r := by
    rw [e]; unfold isNan; rw [rg_wd _ _ (rq_lt _ _)]
    have := rq_le (iv x + iv y).natAbs 1; omega
  have nq : ¬ isNan (rg r) := by unfold isNan at *; rwa [rg_rg]
  have p2 : pl 4517110426252607488 = 4517110426252607488 := by decide
  rw [beq_eq_false_iff_ne]
  intro h
  have := ((order_pl nq (by decide) (fun h => absurd h.2 (by decide))).2.1).1 h
  rw [p2, pl_false (sg_rg r), rg_rg] at this
  omega
theorem far_sub {x y r : Nat} (hx : fin x) (hy : fin y) (hl : y < 2 ^ 64) (h : FSub x y r) (hf : pw2 1055 ≤ (iv x - iv y).natAbs) : (Go.FloatKind.f64.format.order (rg r) 4517110426252607488 == some Ordering.lt) = false := by
  refine far_add hx ((fin_neg y hl).2 hy) (h.add hl) ?_
  have : iv (neg y) = - iv y := by
    unfold iv mv
    rw [sg_neg y hl, rg_neg y hl]
    cases sg y <;> simp
  rw [this]; exact hf
/-- the lifted value -/
theorem pw2_add (a k : Nat) : 2 ^ (a + k) = pw2 a * 2 ^ k := Nat.pow_add 2 a k
theorem pw2_split (a b : Nat) : pw2 (a + b) = 2 ^ a * pw2 b := Nat.pow_add 2 a b
theorem sh_iv {x : Nat} (h : Mid x) : iv x = ((shF x : Int) - 4611686018427387904) * (pw2 1013 : Nat) ∧ 1 ≤ shF x := by
  have hlo := h.lo
  have hhi := h.hi
  have hm : mv x = mv x / pw2 1013 * pw2 1013 ∧ mv x / pw2 1013 < 2 ^ 62 := by
    unfold mv valR
    rw [if_neg (by omega)]
    generalize rg x = r at *
    obtain ⟨k, hk⟩ : ∃ k, r / 2 ^ 52 - 1 = 1013 + k := ⟨r / 2 ^ 52 - 1 - 1013, by omega⟩
    have hk2 : k ≤ 8 := by omega
    rw [hk, pw2_add, Nat.mul_comm (pw2 1013), ← Nat.mul_assoc, Nat.mul_div_cancel _ (pw2_pos 1013)]
    refine ⟨rfl, ?_⟩
    have h1 : 2 ^ 52 + r % 2 ^ 52 < 2 ^ 53 := by omega
    have h2 : 2 ^ k ≤ 2 ^ 8 := Nat.pow_le_pow_right (by decide) hk2
    have := Nat.mul_le_mul (Nat.le_of_lt h1) h2
    omega
  obtain ⟨h1, h2⟩ := hm
  unfold shF
  rw [force_eq, mvF_eq, sgF_eq]
  generalize hv : mv x / pw2 1013 = v at *
  clear hv
  unfold iv
  rw [h1]
  have h3 : v ≤ 4611686018427387904 := by omega
  clear h1
  generalize pw2 1013 = P
  cases sg x
  · simp only [cond_false, Bool.false_eq_true, if_false]
    refine ⟨?_, by omega⟩
    rw [Int.natCast_mul]
    congr 1
    omega
  · simp only [cond_true, if_true]
    refine ⟨?_, by omega⟩
    rw [Int.natCast_mul, ← Int.neg_mul]
    congr 1
    omega
theorem dst_abs (a b : Nat) : dst a b = ((a : Int) - (b : Int)).natAbs := by unfold dst; omega
theorem scale_abs {z : Int} (h : 2 ^ 42 ≤ z.natAbs) : pw2 1055 ≤ (z * (pw2 1013 : Nat)).natAbs := by
  rw [Int.natAbs_mul, Int.natAbs_natCast]
  have e : pw2 1055 = 2 ^ 42 * pw2 1013 := pw2_split 42 1013
  rw [e]
  exact Nat.mul_le_mul_right _ h
theorem far_of_dst {x y : Nat} (hx : Mid x) (hy : Mid y) (h : 2 ^ 42 ≤ dst (shF x) (shF y)) : pw2 1055 ≤ (iv x - iv y).natAbs := by
  rw [(sh_iv hx).1, (sh_iv hy).1, ← Int.sub_mul]
  refine scale_abs ?_
  rw [dst_abs] at h
  omega
theorem far_of_sum {x y : Nat} (hx : Mid x) (hy : Mid y) (h : 2 ^ 42 ≤ dst (shF x + shF y) (2 ^ 63)) : pw2 1055 ≤ (iv x + iv y).natAbs := by
  rw [(sh_iv hx).1, (sh_iv hy).1, ← Int.add_mul]
  refine scale_abs ?_
  rw [dst_abs] at h
  omega
/-- one point: on the circle -/
structure OnC (x y : Nat) : Prop where
  ex : ∃ p q s e, (∀ w, fop .mul x x w = p) ∧ (∀ w, fop .mul y y w = q) ∧ (∀ w, fop .add p q w = s) ∧ (∀ w, fop .sub s 4607182418800017408 w = e) ∧ e < 2 ^ 64 ∧ (Go.FloatKind.f64.format.order (rg e) 4391009636686233600 == some Ordering.gt) = false
  x0 : (Go.FloatKind.f64.format.order x 0 == some Ordering.eq) = false
  y0 : (Go.FloatKind.f64.format.order y 0 == some Ordering.eq) = false
theorem on_circle {c i : Nat} (h1 : 1 ≤ c) (hc : c ≤ 64) (hi : i < c) : OnC (wX c i) (wY c i) := by
  have h := (chk_parts hc).1 i hi
  obtain ⟨mx, my⟩ := mid_w (j := i) h1 hc
  unfold okS at h
  simp only [force_eq, Bool.and_eq_true, finF_iff, Nat.ble_eq, Nat.blt_eq] at h
  have e1 : (pt c i).x = wX c i := rfl
  have e2 : (pt c i).y = wY c i := rfl
  rw [e1, e2] at h
  obtain ⟨⟨⟨⟨⟨⟨⟨⟨⟨_, _⟩, f1⟩, f2⟩, f3⟩, f4⟩, _⟩, _⟩, _⟩, _⟩ := h
  have fx := mx.fin
  have fy := my.fin
  have zx : rg (wX c i) ≠ 0 := by have := mx.lo; omega
  have zy : rg (wY c i) ≠ 0 := by have := my.lo; omega
  refine ⟨⟨_, _, _, _, fopq_mul fx fx, fopq_mul fy fy, fopq_add f1 f2, fopq_sub f3 (by decide) (by decide), ?_, ?_⟩, ?_, ?_⟩
  · exact (fop_sub (addF (mulF (wX c i) (wX c i)) (mulF (wY c i) (wY c i))) 4607182418800017408 default |>.lt) |> fun h => by rwa [fopq_sub f3 (by decide) (by decide)] at h
  · have hr : rg (subF (addF (mulF (wX c i) (wX c i)) (mulF (wY c i) (wY c i))) 4607182418800017408) ≤ 975 * 2 ^ 52 := f4
    generalize rg (subF (addF (mulF (wX c i) (wX c i)) (mulF (wY c i) (wY c i))) 4607182418800017408) = r at *
    have rr : rg r = r := Nat.mod_eq_of_lt (by omega)
    have nr : ¬ isNan r := by unfold isNan INF; omega
    have sr : sg r = false := by unfold sg; rw [Nat.div_eq_of_lt (by omega)]; rfl
    have p2 : pl 4391009636686233600 = 4391009636686233600 := by decide
    rw [beq_eq_false_iff_ne]
    intro h
    have := ((order_pl nr (by decide) (fun h => absurd h.2 (by decide))).1).1 h
    rw [p2, pl_false sr, rr] at this
    omega
  · rw [order_zeroB]; unfold zeroB; exact decide_eq_false zx
  · rw [order_zeroB]; unfold zeroB; exact decide_eq_false zy
/-- two neighbours: anticlockwise -/
def CrossC (x y x' y' : Nat) : Prop := ∃ u v d, (∀ (P : Program) (w : World) (t : TypeId), (binOp .mul t (.float .f64 x) (.float .f64 y')).run P w = .ok (.float .f64 u) w) ∧ (∀ (P : Program) (w : World) (t : TypeId), (binOp .mul t (.float .f64 y) (.float .f64 x')).run P w = .ok (.float .f64 v) w) ∧ (∀ (P : Program) (w : World) (t : TypeId), (binOp .sub t (.float .f64 u) (.float .f64 v)).run P w = .ok (.float .f64 d) w) ∧ (Go.FloatKind.f64.format.order d 0 == some Ordering.lt) = false ∧ (Go.FloatKind.f64.format.order d 0 == some Ordering.eq) = false
theorem cross_circle {c i : Nat} (h1 : 1 ≤ c) (hc : c ≤ 64) (h2 : 2 < c) (hi : i < c) : CrossC (wX c i) (wY c i) (wX c ((i + 1) % c)) (wY c ((i + 1) % c)) := by
  have h := (chk_parts hc).2.2 h2 i hi
  obtain ⟨mx, my⟩ := mid_w (j := i) h1 hc
  obtain ⟨mx', my'⟩ := mid_w (j := (i + 1) % c) h1 hc
  unfold okX at h
  simp only [force_eq, Bool.and_eq_true, finF_iff, Nat.blt_eq] at h
  have e1 : (pt c i).x = wX c i := rfl
  have e2 : (pt c i).y = wY c i := rfl
  have e3 : (pt c ((i + 1) % c)).x = wX c ((i + 1) % c) := rfl
  have e4 : (pt c ((i + 1) % c)).y = wY c ((i + 1) % c) := rfl
  rw [e1, e2, e3, e4] at h
  obtain ⟨⟨⟨⟨f1, f2⟩, l2⟩, p1⟩, p2⟩ := h
  refine ⟨_, _, _, runq_mul mx.fin my'.fin, runq_mul my.fin mx'.fin, runq_sub f1 f2 l2, ?_, ?_⟩
  · generalize subF (mulF (wX c i) (wY c ((i + 1) % c))) (mulF (wY c i) (wX c ((i + 1) % c))) = r at *
    unfold INF at p2
    have rr : rg r = r := Nat.mod_eq_of_lt (by omega)
    have nr : ¬ isNan r := by unfold isNan INF; omega
    have sr : sg r = false := by unfold sg; rw [Nat.div_eq_of_lt (by omega)]; rfl
    rw [beq_eq_false_iff_ne]
    intro h
    have := ((order_pl nr (by decide) (fun h => absurd h.1 (by omega))).2.1).1 h
    rw [pl_false sr, rr] at this
    have p0 : pl 0 = 0 := by decide
    omega
  · generalize subF (mulF (wX c i) (wY c ((i + 1) % c))) (mulF (wY c i) (wX c ((i + 1) % c))) = r at *
    unfold INF at p2
    have rr : rg r = r := Nat.mod_eq_of_lt (by omega)
    rw [order_zeroB]; unfold zeroB; exact decide_eq_false (by omega)
/-- two points: apart, and apart from one another's conjugates -/
def FarC (x y x' y' : Nat) : Prop :=
  (∃ d, (∀ (P : Program) (w : World) (t : TypeId), (binOp .sub t (.float .f64 x) (.float .f64 x')).run P w = .ok (.float .f64 d) w) ∧ d < 2 ^ 64 ∧ (Go.FloatKind.f64.format.order (rg d) 4517110426252607488 == some Ordering.lt) = false) ∨
  (∃ d e f, (∀ (P : Program) (w : World) (t : TypeId), (binOp .sub t (.float .f64 x) (.float .f64 x')).run P w = .ok (.float .f64 d) w) ∧ (∀ (P : Program) (w : World) (t : TypeId), (binOp .sub t (.float .f64 y) (.float .f64 y')).run P w = .ok (.float .f64 e) w) ∧ (∀ (P : Program) (w : World) (t : TypeId), (binOp .add t (.float .f64 y) (.float .f64 y')).run P w = .ok (.float .f64 f) w) ∧ d < 2 ^ 64 ∧ e < 2 ^ 64 ∧ f < 2 ^ 64 ∧ (Go.FloatKind.f64.format.order (rg e) 4517110426252607488 == some Ordering.lt) = false ∧ (Go.FloatKind.f64.format.order (rg f) 4517110426252607488 == some Ordering.lt) = false)
theorem dst_comm (a b : Nat) : dst a b = dst b a := by unfold dst; omega
theorem far_circle {c i m : Nat} (h1 : 1 ≤ c) (hc : c ≤ 64) (hm : m < i) (hi : i < c) : FarC (wX c i) (wY c i) (wX c m) (wY c m) := by
  have h := (chk_parts hc).2.1 i m hm hi
  obtain ⟨mx, my⟩ := mid_w (j := i) h1 hc
  obtain ⟨mx', my'⟩ := mid_w (j := m) h1 hc
  obtain ⟨d, d1, hd, d2⟩ : ∃ d, (∀ (P : Program) (w : World) (t : TypeId), (binOp .sub t (.float .f64 (wX c i)) (.float .f64 (wX c m))).run P w = .ok (.float .f64 d) w) ∧ FSub (wX c i) (wX c m) d ∧ d < 2 ^ 64 := by
    have e := subF_eq mx.fin mx'.fin mx'.lt
    have h : FSub (wX c i) (wX c m) (subF (wX c i) (wX c m)) := by unfold FSub; rw [e]; rfl
    exact ⟨_, runq_sub mx.fin mx'.fin mx'.lt, h, h.lt⟩
  obtain ⟨e, e1, he, e2⟩ : ∃ d, (∀ (P : Program) (w : World) (t : TypeId), (binOp .sub t (.float .f64 (wY c i)) (.float .f64 (wY c m))).run P w = .ok (.float .f64 d) w) ∧ FSub (wY c i) (wY c m) d ∧ d < 2 ^ 64 := by
    have e := subF_eq my.fin my'.fin my'.lt
    have h : FSub (wY c i) (wY c m) (subF (wY c i) (wY c m)) := by unfold FSub; rw [e]; rfl
    exact ⟨_, runq_sub my.fin my'.fin my'.lt, h, h.lt⟩
  obtain ⟨f, f1, hf, f2⟩ : ∃ d, (∀ (P : Program) (w : World) (t : TypeId), (binOp .add t (.float .f64 (wY c i)) (.float .f64 (wY c m))).run P w = .ok (.float .f64 d) w) ∧ FAdd (wY c i) (wY c m) d ∧ d < 2 ^ 64 := by
    have e := addF_eq my.fin my'.fin
    have h : FAdd (wY c i) (wY c m) (addF (wY c i) (wY c m)) := by unfold FAdd; rw [e]; rfl
    exact ⟨_, runq_add my.fin my'.fin, h, h.lt⟩
  unfold okA at h
  rw [Bool.or_eq_true, Bool.and_eq_true, Nat.ble_eq, Nat.ble_eq, Nat.ble_eq] at h
  rcases h with h | ⟨h, h'⟩
  · left
    have q : 2 ^ 42 ≤ dst (shF (wX c i)) (shF (wX c m)) := by rw [dst_comm]; exact h
    exact ⟨d, d1, d2, far_sub mx.fin mx'.fin mx'.lt hd (far_of_dst mx mx' q)⟩
  · right
    have q : 2 ^ 42 ≤ dst (shF (wY c i)) (shF (wY c m)) := by rw [dst_comm]; exact h
    have q' : 2 ^ 42 ≤ dst (shF (wY c i) + shF (wY c m)) (2 ^ 63) := by rw [Nat.add_comm]; exact h'
    exact ⟨d, e, f, d1, e1, f1, d2, e2, f2, far_sub my.fin my'.fin my'.lt he (far_of_dst my my' q), far_add my.fin my'.fin hf (far_of_sum my my' q')⟩
end Fl
