/- The walk of StepLine. -/
import Derived.Test.YtokmommlabdcdaaGreatMStepAwake
import Derived.Test.YtokmommlabdcdaaGreatMFlLine
set_option linter.unusedVariables false
set_option linter.unusedSimpArgs false
set_option linter.unusedVariables false
set_option linter.unusedSimpArgs false
namespace Go.Proofs.YtokmommlabdcdaaGreat
open Fl Go.RowKit
theorem and1023 (x : Int) : 0 ≤ bits .and .i64 x 1023 ∧ bits .and .i64 x 1023 ≤ 1023 := by
  have h : (BitVec.ofInt 64 x &&& BitVec.ofInt 64 1023).toNat ≤ 1023 := by
    rw [BitVec.toNat_and]
    exact Nat.and_le_right
  show 0 ≤ IntKind.i64.wrap ((BitVec.ofInt 64 x &&& BitVec.ofInt 64 1023).toNat : Int) ∧ IntKind.i64.wrap ((BitVec.ofInt 64 x &&& BitVec.ofInt 64 1023).toNat : Int) ≤ 1023
  rw [IntKind.wrap_i64]
  omega
theorem line_ok {K M : Nat} {k m : Int} (h : IsI K k) (g : IsI M m) : CsOk [(K, 0), (M, 0)] := fun i hi => by
  match i, hi with
  | 0, _ => exact ⟨h.2.2, Nat.two_pow_pos 64⟩
  | 1, _ => exact ⟨g.2.2, Nat.two_pow_pos 64⟩
theorem line_okz {A B : Nat} {k m : Int} (h : IsI A k) (g : IsI B m) : CsOk [(A, B)] := fun i hi => by
  match i, hi with
  | 0, _ => exact ⟨h.2.2, g.2.2⟩
theorem lineN_c (w : World) (T : TypeId) (K M A B : Nat) (m p q r : Int) (hk : IsI K (-m * r)) (hc : IsI M m) (hz : IsI A p) (hz2 : IsI B q) (hm0 : m ≠ 0) (hm : m.natAbs ≤ 1024) (hp : p.natAbs ≤ 1024) (hq : q.natAbs ≤ 1024) (hr : r.natAbs ≤ 1024)
    (b : Nat) (hs : Sl w (.slice (some ⟨b, 0, none⟩) 2 2) [(K, 0), (M, 0)]) :
    Calls Tryz.prog 33 #[.slice (some ⟨b, 0, none⟩) 2 2, .complex .f64 A B] w fun e w' => ∃ x : Cpx, e = .returned (.tuple #[.complex .f64 x.1 x.2, .int .i64 0]) ∧ (IsI x.1 r ∧ IsI x.2 0) ∧ Below w.heap.size w w' := by
  refine (newton_any [(K, 0), (M, 0)] (A, B) _ _ hs (line_ok hk hc) ⟨hz.2.2, hz2.2.2⟩).mono ?_
  rintro e w' ⟨x, rfl, h0, _, hb⟩
  exact ⟨x, rfl, line_newton hk IsI.zero hc IsI.zero hz hz2 hm0 hm hp hq hr (h0 rfl), hb⟩
theorem lineW_c (w : World) (T T' : TypeId) (K M A B : Nat) (m p q r : Int) (hk : IsI K (-m * r)) (hc : IsI M m) (hz : IsI A p) (hz2 : IsI B q) (hm0 : m ≠ 0) (hm : m.natAbs ≤ 1024) (hp : p.natAbs ≤ 1024) (hq : q.natAbs ≤ 1024) (hr : r.natAbs ≤ 1024) :
    Calls Tryz.prog 34 #[.slice (some ⟨w.heap.size, 0, none⟩) 2 2, .slice (some ⟨w.heap.size + 1, 0, none⟩) 1 1, .int .i64 0] ((w.alloc (.cells #[.complex .f64 K 0, .complex .f64 M 0] T)).alloc (.cells #[.complex .f64 A B] T')) fun e w' => ∃ x : Cpx, e = .returned (.tuple #[.complex .f64 x.1 x.2, .int .i64 0]) ∧ (IsI x.1 r ∧ IsI x.2 0) ∧ Below w.heap.size w w' ∧ Sl w' (.slice (some ⟨w.heap.size, 0, none⟩) 2 2) [(K, 0), (M, 0)] := by
  have s1 := StepAwake.slLit1 w [(K, 0), (M, 0)] T (.cells #[.complex .f64 A B] T')
  refine (weier_any [(K, 0), (M, 0)] [(A, B)] 0 _ _ _ s1 (StepAwake.slLit2 w [(A, B)] _ T') (line_ok hk hc) (line_okz hz hz2)).mono ?_
  rintro e w' ⟨x, rfl, h0, _, hb⟩
  exact ⟨x, rfl, line_weier hk IsI.zero hc IsI.zero hz hz2 hm0 hm hp hq hr (h0 (by show fitCode 2 1 0 = 0; decide)), (StepAwake.bel2 _ _ _).trans (hb.mono (by rw [World.size_alloc, World.size_alloc]; omega)), s1.below hb⟩
set_option maxHeartbeats 4000000 in
set_option maxRecDepth 100000 in
theorem stepLine_walk (slope root re im : Int) (w : World) : Calls Tryz.prog 9 #[.int .i64 slope, .int .i64 root, .int .i64 re, .int .i64 im] w fun e w' => e = .returned (.bool true) ∧ Below w.heap.size w w' := by
  obtain ⟨s, hs, hs0, hs1⟩ : ∃ s, bits .and .i64 slope 1023 = s ∧ 0 ≤ s ∧ s ≤ 1023 := ⟨_, rfl, (and1023 _).1, (and1023 _).2⟩
  obtain ⟨r, hr, hr0, hr1⟩ : ∃ s, bits .and .i64 root 1023 = s ∧ 0 ≤ s ∧ s ≤ 1023 := ⟨_, rfl, (and1023 _).1, (and1023 _).2⟩
  obtain ⟨a, ha, ha0, ha1⟩ : ∃ s, bits .and .i64 re 1023 = s ∧ 0 ≤ s ∧ s ≤ 1023 := ⟨_, rfl, (and1023 _).1, (and1023 _).2⟩
  obtain ⟨b, hb, hb0, hb1⟩ : ∃ s, bits .and .i64 im 1023 = s ∧ 0 ≤ s ∧ s ≤ 1023 := ⟨_, rfl, (and1023 _).1, (and1023 _).2⟩
  have w1 : IntKind.i64.wrap (1 + s) = 1 + s := IntWalk.i64_in _ (by omega)
  have w2 : IntKind.i64.wrap (-(1 + s)) = -(1 + s) := IntWalk.i64_in _ (by omega)
  have sm := small (m := -(1 + s)) (a := r) (by omega) (by omega)
  have w3 : IntKind.i64.wrap (-(1 + s) * r) = -(1 + s) * r := IntWalk.i64_in _ (by omega)
  have ik := Lib.hid (IsI.ofInt (-(1 + s) * r) (by omega))
  have im' := Lib.hid (IsI.ofInt (1 + s) (by omega))
  have ia := Lib.hid (IsI.ofInt a (by omega))
  have ib := Lib.hid (IsI.ofInt b (by omega))
  have ir := Lib.hid (IsI.ofInt r (by omega))
  obtain ⟨K, hK⟩ : ∃ K, floatOfInt .f64 (-(1 + s) * r) = K := ⟨_, rfl⟩
  obtain ⟨M, hM⟩ : ∃ K, floatOfInt .f64 (1 + s) = K := ⟨_, rfl⟩
  obtain ⟨A, hA⟩ : ∃ K, floatOfInt .f64 a = K := ⟨_, rfl⟩
  obtain ⟨B, hB⟩ : ∃ K, floatOfInt .f64 b = K := ⟨_, rfl⟩
  obtain ⟨R, hR⟩ : ∃ K, floatOfInt .f64 r = K := ⟨_, rfl⟩
  rw [hK] at ik; rw [hM] at im'; rw [hA] at ia; rw [hB] at ib; rw [hR] at ir
  have BO := Lib.hid (show (1 + s) ≠ 0 ∧ (1 + s).natAbs ≤ 1024 ∧ a.natAbs ≤ 1024 ∧ b.natAbs ≤ 1024 ∧ r.natAbs ≤ 1024 by omega)
  clear hs0 hs1 hr0 hr1 ha0 ha1 hb0 hb1 sm
  go_enter Tryz.func9, Tryz.ntmps9
  go_wp2_with fail
  refine (StepAwake.awake_any w).mono ?_
  intro e w1 hh
  rcases hh with ⟨rfl, hb⟩
  have B1 := Lib.hid hb
  clear hb
  go_wp2_with fail
  refine (lineW_c _ _ _ K M A B (1 + s) a b r ik.out im'.out ia.out ib.out BO.out.1 BO.out.2.1 BO.out.2.2.1 BO.out.2.2.2.1 BO.out.2.2.2.2).mono ?_
  intro e w2 hh
  rcases hh with ⟨x, rfl, hx, hb, hs⟩
  have B2 := Lib.hid (B1.out.trans (hb.mono B1.out.size))
  have X := Lib.hid hx
  have S := Lib.hid hs
  clear hb hx hs
  go_wp2_with fail
  refine (lineN_c _ 0 K M A B (1 + s) a b r ik.out im'.out ia.out ib.out BO.out.1 BO.out.2.1 BO.out.2.2.1 BO.out.2.2.2.1 BO.out.2.2.2.2 _ S.out).mono ?_
  intro e w3 hh
  rcases hh with ⟨y, rfl, hx, hb⟩
  have B3 := Lib.hid (B2.out.trans (hb.mono B2.out.size))
  have Y := Lib.hid hx
  clear hb hx
  have o1 := X.out.1.eqB ir.out
  have o2 := X.out.2.eqB IsI.zero
  have o3 := Y.out.1.eqB X.out.1
  have o4 := Y.out.2.eqB X.out.2
  go_wp2_with fail
  refine (num_any _ _).mono ?_
  rintro e w' ⟨rfl, rfl⟩
  go_wp2_with fail
  refine (num_any _ _).mono ?_
  rintro e w' ⟨rfl, rfl⟩
  go_wp2_with fail
  go_ret
  exact ⟨rfl, B3.out⟩
end Go.Proofs.YtokmommlabdcdaaGreat
