/- surdlaw5.awake answers true; nothing that was there is written. -/
import Derived.Test.YtmfmgofafamemaaCpx2
import Derived.Test.YtmfmgofafamemaaSum
namespace Go.Proofs.Ytmfmgofafamemaa
open Fl Go.RowKit

namespace CpxAwake
theorem a1 : Ieee.double.add 4607182418800017408 4613937818241073152 = some 4616189618054758400 := by decide +kernel
theorem a2 : Ieee.double.add 4611686018427387904 4616189618054758400 = some 4618441417868443648 := by decide +kernel
theorem s1 : Ieee.double.sub 4607182418800017408 4613937818241073152 = some 13835058055282163712 := by decide +kernel
theorem s2 : Ieee.double.sub 4611686018427387904 4616189618054758400 = some 13835058055282163712 := by decide +kernel
theorem m1 : Ieee.double.mul 4607182418800017408 4613937818241073152 = some 4613937818241073152 := by decide +kernel
theorem m2 : Ieee.double.mul 4611686018427387904 4616189618054758400 = some 4620693217682128896 := by decide +kernel
theorem m3 : Ieee.double.sub 4613937818241073152 4620693217682128896 = some 13840687554816376832 := by decide +kernel
theorem m4 : Ieee.double.mul 4607182418800017408 4616189618054758400 = some 4616189618054758400 := by decide +kernel
theorem m5 : Ieee.double.mul 4611686018427387904 4613937818241073152 = some 4618441417868443648 := by decide +kernel
theorem m6 : Ieee.double.add 4616189618054758400 4618441417868443648 = some 4621819117588971520 := by decide +kernel
theorem add_c (w : World) : Calls Try.prog 16 #[.complex .f64 4607182418800017408 4611686018427387904, .complex .f64 4613937818241073152 4616189618054758400] w fun e w' => ∃ n, e = .returned (.complex .f64 4616189618054758400 4618441417868443648) ∧ w' = w.drewN n := by
  refine (add_any _ _ _ _ _).mono ?_
  rintro e w' ⟨x, y, n, ⟨h1, h2⟩, rfl, rfl⟩
  exact ⟨n, by rw [Res.eq h1 a1, Res.eq h2 a2], rfl⟩
theorem sub_c (w : World) : Calls Try.prog 18 #[.complex .f64 4607182418800017408 4611686018427387904, .complex .f64 4613937818241073152 4616189618054758400] w fun e w' => ∃ n, e = .returned (.complex .f64 13835058055282163712 13835058055282163712) ∧ w' = w.drewN n := by
  refine (sub_any _ _ _ _ _).mono ?_
  rintro e w' ⟨x, y, n, ⟨h1, h2⟩, rfl, rfl⟩
  exact ⟨n, by rw [Res.eq h1 s1, Res.eq h2 s2], rfl⟩
theorem mul_c (w : World) : Calls Try.prog 17 #[.complex .f64 4607182418800017408 4611686018427387904, .complex .f64 4613937818241073152 4616189618054758400] w fun e w' => ∃ n, e = .returned (.complex .f64 13840687554816376832 4621819117588971520) ∧ w' = w.drewN n := by
  refine (mul_any _ _ _ _ _).mono ?_
  rintro e w' ⟨x, y, n, ⟨p, q, r, s, h1, h2, h3, h4, h5, h6⟩, rfl, rfl⟩
  obtain rfl := Res.eq h1 m1
  obtain rfl := Res.eq h2 m2
  obtain rfl := Res.eq h4 m4
  obtain rfl := Res.eq h5 m5
  exact ⟨n, by rw [Res.eq h3 m3, Res.eq h6 m6], rfl⟩
-- (-5 + 10 i) / (3 + 4 i): |3| < |4|: r = 3/4, t = 3 r + 4
theorem d0 : geB (rg 4613937818241073152) (rg 4616189618054758400) = false := by decide +kernel
theorem d1 : Ieee.double.div 4613937818241073152 4616189618054758400 = some 4604930618986332160 := by decide +kernel
theorem d2 : Ieee.double.mul 4613937818241073152 4604930618986332160 = some 4612248968380809216 := by decide +kernel
theorem d3 : Ieee.double.add 4612248968380809216 4616189618054758400 = some 4618722892845154304 := by decide +kernel
theorem d4 : Ieee.double.mul 13840687554816376832 4604930618986332160 = some 13838998704956112896 := by decide +kernel
theorem d5 : Ieee.double.add 13838998704956112896 4621819117588971520 = some 4618722892845154304 := by decide +kernel
theorem d6 : Ieee.double.div 4618722892845154304 4618722892845154304 = some 4607182418800017408 := by decide +kernel
theorem d7 : Ieee.double.mul 4621819117588971520 4604930618986332160 = some 4620130267728707584 := by decide +kernel
theorem d8 : Ieee.double.sub 4620130267728707584 13840687554816376832 = some 4623226492472524800 := by decide +kernel
theorem d9 : Ieee.double.div 4623226492472524800 4618722892845154304 = some 4611686018427387904 := by decide +kernel
theorem div_c (w : World) : Calls Try.prog 32 #[.complex .f64 13840687554816376832 4621819117588971520, .complex .f64 4613937818241073152 4616189618054758400] w fun e w' => ∃ n, e = .returned (.complex .f64 4607182418800017408 4611686018427387904) ∧ w' = w.drewN n := by
  refine (div_any _ _ _ _ (by decide) (by decide) _).mono ?_
  rintro e w' ⟨x, y, n, h | h, rfl, rfl⟩
  · exact absurd h.1 (by rw [d0]; decide)
  · obtain ⟨_, r, m, t, m1, n1, m2, n2, h1, h2, h3, h4, h5, h6, h7, h8, h9⟩ := h
    obtain rfl := Res.eq h1 d1
    obtain rfl := Res.eq h2 d2
    obtain rfl := Res.eq h3 d3
    obtain rfl := Res.eq h4 d4
    obtain rfl := Res.eq h5 d5
    obtain rfl := Res.eq h7 d7
    obtain rfl := Res.eq h8 d8
    exact ⟨n, by rw [Res.eq h6 d6, Res.eq h9 d9], rfl⟩
theorem c1 : Ieee.double.mul 4607182418800017408 4611686018427387904 = some 4611686018427387904 := by decide +kernel
theorem c2 : Ieee.double.mul 4611686018427387904 4611686018427387904 = some 4616189618054758400 := by decide +kernel
theorem scale_c (w : World) : Calls Try.prog 40 #[.complex .f64 4607182418800017408 4611686018427387904, .float .f64 4611686018427387904] w fun e w' => ∃ n, e = .returned (.complex .f64 4611686018427387904 4616189618054758400) ∧ w' = w.drewN n := by
  refine (scale_any _ _ _ _).mono ?_
  rintro e w' ⟨x, y, n, ⟨h1, h2⟩, rfl, rfl⟩
  exact ⟨n, by rw [Res.eq h1 c1, Res.eq h2 c2], rfl⟩
theorem conj_c (w : World) : Calls Try.prog 20 #[.complex .f64 4607182418800017408 4611686018427387904] w fun e w' => e = .returned (.complex .f64 4607182418800017408 13835058055282163712) ∧ w = w' :=
  conj_any _ _ (by decide) w
theorem neg_c (w : World) : Calls Try.prog 19 #[.complex .f64 4607182418800017408 4611686018427387904] w fun e w' => e = .returned (.complex .f64 13830554455654793216 13835058055282163712) ∧ w = w' :=
  neg_any _ _ (by decide) (by decide) w
theorem k0 : fmax (rg 4613937818241073152) (rg 4616189618054758400) = 4616189618054758400 := by decide +kernel
theorem size_c (w : World) : Calls Try.prog 27 #[.complex .f64 4613937818241073152 4616189618054758400] w fun e w' => e = .returned (.float .f64 4616189618054758400) ∧ w = w' := by
  refine (csize_any _ _ (by decide) (by decide) w).mono ?_
  rintro e w' ⟨rfl, rfl⟩
  exact ⟨by rw [k0], rfl⟩
theorem k1 : clsC 4607182418800017408 4611686018427387904 = 4 := by decide +kernel
theorem class_c (w : World) : Calls Try.prog 26 #[.complex .f64 4607182418800017408 4611686018427387904] w fun e w' => e = .returned (.int .i64 4) ∧ w = w' := by
  refine (cclass_any _ _ (by decide) (by decide) w).mono ?_
  rintro e w' ⟨rfl, rfl⟩
  exact ⟨by rw [k1], rfl⟩
theorem k2 : sameCB 4607182418800017408 4611686018427387904 4607182418800017408 4611686018427387904 = true := by decide +kernel
theorem k3 : sameCB 4607182418800017408 4611686018427387904 4613937818241073152 4616189618054758400 = false := by decide +kernel
theorem k4 : (eqB 4613937818241073152 4613937818241073152 && eqB 4616189618054758400 4616189618054758400) = true := by decide +kernel
theorem k5 : (eqB 4607182418800017408 4613937818241073152 && eqB 4611686018427387904 4616189618054758400) = false := by decide +kernel
theorem same_c1 (w : World) : Calls Try.prog 41 #[.complex .f64 4607182418800017408 4611686018427387904, .complex .f64 4607182418800017408 4611686018427387904] w fun e w' => e = .returned (.bool true) ∧ w = w' := by
  refine (csame_any _ _ _ _ (by decide) (by decide) (by decide) (by decide) w).mono ?_
  rintro e w' ⟨rfl, rfl⟩
  exact ⟨by rw [k2], rfl⟩
theorem same_c2 (w : World) : Calls Try.prog 41 #[.complex .f64 4607182418800017408 4611686018427387904, .complex .f64 4613937818241073152 4616189618054758400] w fun e w' => e = .returned (.bool false) ∧ w = w' := by
  refine (csame_any _ _ _ _ (by decide) (by decide) (by decide) (by decide) w).mono ?_
  rintro e w' ⟨rfl, rfl⟩
  exact ⟨by rw [k3], rfl⟩
theorem equal_c1 (w : World) : Calls Try.prog 42 #[.complex .f64 4613937818241073152 4616189618054758400, .complex .f64 4613937818241073152 4616189618054758400] w fun e w' => e = .returned (.bool true) ∧ w = w' := by
  refine (cequal_any _ _ _ _ w).mono ?_
  rintro e w' ⟨rfl, rfl⟩
  exact ⟨by rw [k4], rfl⟩
theorem equal_c2 (w : World) : Calls Try.prog 42 #[.complex .f64 4607182418800017408 4611686018427387904, .complex .f64 4613937818241073152 4616189618054758400] w fun e w' => e = .returned (.bool false) ∧ w = w' := by
  refine (cequal_any _ _ _ _ w).mono ?_
  rintro e w' ⟨rfl, rfl⟩
  exact ⟨by rw [k5], rfl⟩
theorem sum_c (b : Nat) (w : World) (h1 : w.cell? ⟨b, 0, none⟩ = some (.complex .f64 4607182418800017408 4611686018427387904)) (h2 : w.cell? ⟨b, 1, none⟩ = some (.complex .f64 4613937818241073152 4616189618054758400)) :
    Calls Try.prog 24 #[.slice (some ⟨b, 0, none⟩) 2 2, .int .i64 1] w fun e w' => e = .returned (.tuple #[.complex .f64 4616189618054758400 4618441417868443648, .int .i64 0]) ∧ Below w.heap.size w w' := by
  have hs : Sl w (.slice (some ⟨b, 0, none⟩) 2 2) [(4607182418800017408, 4611686018427387904), (4613937818241073152, 4616189618054758400)] := by
    refine .inr ⟨b, 0, 2, rfl, by decide, fun i hi => ?_⟩
    match i, hi with
    | 0, _ => exact h1
    | 1, _ => exact h2
  refine (sum_any _ _ 1 w hs (by decide)).mono ?_
  rintro e w' ⟨x, y, code, rfl, h | h, hb⟩
  · obtain ⟨_, _, rfl, h⟩ := h
    rcases h with ⟨_, h⟩ | ⟨h, _⟩ | ⟨h, _⟩
    · cases h with
      | cons _ _ _ _ c d _ _ hA hF =>
        cases hF
        exact ⟨by rw [Res.eq hA.1 a1, Res.eq hA.2 a2], hb⟩
    · exact absurd h (by decide)
    · exact absurd h (by decide)
  · exact absurd ⟨by decide, by decide⟩ h.1
theorem o1 : FloatKind.f64.format.order 4616189618054758400 4616189618054758400 = some Ordering.eq := by decide +kernel
theorem o2 : FloatKind.f64.format.order 4618441417868443648 4618441417868443648 = some Ordering.eq := by decide +kernel
theorem o3 : FloatKind.f64.format.order 13835058055282163712 13835058055282163712 = some Ordering.eq := by decide +kernel
theorem o4 : FloatKind.f64.format.order 13840687554816376832 13840687554816376832 = some Ordering.eq := by decide +kernel
theorem o5 : FloatKind.f64.format.order 4621819117588971520 4621819117588971520 = some Ordering.eq := by decide +kernel
theorem o6 : FloatKind.f64.format.order 4607182418800017408 4607182418800017408 = some Ordering.eq := by decide +kernel
theorem o7 : FloatKind.f64.format.order 4611686018427387904 4611686018427387904 = some Ordering.eq := by decide +kernel
theorem o8 : FloatKind.f64.format.order 13830554455654793216 13830554455654793216 = some Ordering.eq := by decide +kernel
theorem o9 : FloatKind.f64.format.order 4613937818241073152 4613937818241073152 = some Ordering.eq := by decide +kernel
theorem p1 : FloatKind.f32.format.order 1065353216 1065353216 = some Ordering.eq := by decide +kernel
theorem p2 : FloatKind.f32.format.order 1073741824 1073741824 = some Ordering.eq := by decide +kernel
theorem v1 (w : World) : (convert 28 68 (.float .f64 4607182418800017408)).run Try.prog w = .ok (.float .f32 1065353216) w := by kernel_rfl
theorem v2 (w : World) : (convert 28 68 (.float .f64 4611686018427387904)).run Try.prog w = .ok (.float .f32 1073741824) w := by kernel_rfl
theorem v3 (w : World) : (convert 52 30 (.complex .f32 1077936128 1082130432)).run Try.prog w = .ok (.complex .f64 4613937818241073152 4616189618054758400) w := by kernel_rfl
theorem narrow_c (w : World) : Calls Try.prog 30 #[.complex .f64 4607182418800017408 4611686018427387904] w fun e w' => e = .returned (.complex .f32 1065353216 1073741824) ∧ w = w' := by
  have h1 := v1
  have h2 := v2
  go_enter Try.func30, Try.ntmps30
  go_wp2
  go_ret
  exact ⟨rfl, rfl⟩
theorem wide_c (w : World) : Calls Try.prog 29 #[.complex .f32 1077936128 1082130432] w fun e w' => e = .returned (.complex .f64 4613937818241073152 4616189618054758400) ∧ w = w' := by
  have h1 := v3
  go_enter Try.func29, Try.ntmps29
  go_wp2
  go_ret
  exact ⟨rfl, rfl⟩

theorem cell_row0 (w : World) (u v : Value) (t : TypeId) : (w.alloc (.cells #[u, v] t)).cell? ⟨w.heap.size, 0, none⟩ = some u := by
  unfold World.cell?
  have : (w.alloc (.cells #[u, v] t)).heap[w.heap.size]? = some (.cells #[u, v] t) := by
    show (w.heap.push _)[w.heap.size]? = _
    simp
  simp only [this]
  rfl
theorem cell_row1 (w : World) (u v : Value) (t : TypeId) : (w.alloc (.cells #[u, v] t)).cell? ⟨w.heap.size, 1, none⟩ = some v := by
  unfold World.cell?
  have : (w.alloc (.cells #[u, v] t)).heap[w.heap.size]? = some (.cells #[u, v] t) := by
    show (w.heap.push _)[w.heap.size]? = _
    simp
  simp only [this]
  rfl
set_option maxHeartbeats 1000000 in
set_option maxRecDepth 100000 in
theorem awake_any (w : World) : Calls Try.prog 22 #[] w fun e w' => e = .returned (.bool true) ∧ Below w.heap.size w w' := by
  have h1 := o1
  have h2 := o2
  have h3 := o3
  have h4 := o4
  have h5 := o5
  have h6 := o6
  have h7 := o7
  have h8 := o8
  have h9 := o9
  have h10 := p1
  have h11 := p2
  go_enter Try.func22, Try.ntmps22
  go_wp2_with fail
  refine (sum_c _ _ (cell_row0 _ _ _ _) (cell_row1 _ _ _ _)).mono ?_
  rintro e w1 ⟨rfl, hb⟩
  have hB : Below w.heap.size w w1 := (below_alloc w _).trans (hb.mono (by rw [World.size_alloc]; omega))
  have HB := Lib.hid hB; clear hB hb
  go_wp2_with fail
  refine (add_c _).mono ?_
  rintro e w2 ⟨n1, rfl, rfl⟩
  go_wp2_with fail
  refine (sub_c _).mono ?_
  rintro e w2 ⟨n2, rfl, rfl⟩
  go_wp2_with fail
  refine (mul_c _).mono ?_
  rintro e w2 ⟨n3, rfl, rfl⟩
  go_wp2_with fail
  refine (div_c _).mono ?_
  rintro e w2 ⟨n4, rfl, rfl⟩
  go_wp2_with fail
  refine (conj_c _).mono ?_
  rintro e w2 ⟨rfl, rfl⟩
  go_wp2_with fail
  refine (neg_c _).mono ?_
  rintro e w2 ⟨rfl, rfl⟩
  go_wp2_with fail
  refine (scale_c _).mono ?_
  rintro e w2 ⟨n5, rfl, rfl⟩
  go_wp2_with fail
  refine (size_c _).mono ?_
  rintro e w2 ⟨rfl, rfl⟩
  go_wp2_with fail
  refine (class_c _).mono ?_
  rintro e w2 ⟨rfl, rfl⟩
  go_wp2_with fail
  refine (same_c1 _).mono ?_
  rintro e w2 ⟨rfl, rfl⟩
  go_wp2_with fail
  refine (equal_c1 _).mono ?_
  rintro e w2 ⟨rfl, rfl⟩
  go_wp2_with fail
  refine (same_c2 _).mono ?_
  rintro e w2 ⟨rfl, rfl⟩
  go_wp2_with fail
  refine (equal_c2 _).mono ?_
  rintro e w2 ⟨rfl, rfl⟩
  go_wp2_with fail
  refine (num_any _ _).mono ?_
  rintro e w2 ⟨rfl, rfl⟩
  go_wp2_with fail
  refine (narrow_c _).mono ?_
  rintro e w2 ⟨rfl, rfl⟩
  go_wp2_with fail
  refine (wide_c _).mono ?_
  rintro e w2 ⟨rfl, rfl⟩
  go_wp2_with fail
  go_ret
  exact ⟨rfl, below_drewN HB.out _⟩
end CpxAwake
end Go.Proofs.Ytmfmgofafamemaa
