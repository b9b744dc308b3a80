/- Contracts of cpx.Sum and what it calls: the answer is one of the sums that SumR allows; nothing that was there is written. surdlaw5.awake answers true; nothing that was there is written. -/
import Derived.Test.YtokmommlabdcdaaGreatMCpx
import Derived.Test.YtokmommlabdcdaaGreatMFlRel
import Derived.Deep.RegionHeld3
set_option linter.unusedVariables false
set_option linter.unusedSimpArgs false
namespace Go.Proofs.YtokmommlabdcdaaGreat
open Fl Go.RowKit

set_option maxHeartbeats 1000000 in
theorem halves_any : ∀ (m : Nat) (zs : List Cpx) (v : Value) (w : World), zs.length ≤ m → zs.length ≤ 4611686018427387904 → Sl w v zs →
    Calls Tryz.prog 59 #[v] w (CRet (HalvesR zs) w) := by
  intro m
  induction m with
  | zero =>
    intro zs v w hm _ hv
    obtain rfl : zs = [] := List.eq_nil_of_length_eq_zero (by omega)
    rcases hv with ⟨rfl, _⟩ | ⟨b, off, cap, rfl, _, _⟩
    · go_enter Tryz.func59, Tryz.ntmps59
      go_wp2_with fail
      go_ret
      exact CRet.mk0 .nil
    · go_enter Tryz.func59, Tryz.ntmps59
      go_wp2_with fail
      go_ret
      exact CRet.mk0 .nil
  | succ m ih =>
    intro zs v w hm hmax hv
    match zs, hm, hmax, hv with
    | [], _, _, hv =>
      rcases hv with ⟨rfl, _⟩ | ⟨b, off, cap, rfl, _, _⟩
      · go_enter Tryz.func59, Tryz.ntmps59
        go_wp2_with fail
        go_ret
        exact CRet.mk0 .nil
      · go_enter Tryz.func59, Tryz.ntmps59
        go_wp2_with fail
        go_ret
        exact CRet.mk0 .nil
    | [z], _, _, hv =>
      rcases hv with ⟨_, h⟩ | ⟨b, off, cap, rfl, hcap, hc⟩
      · cases h
      · have hc0 : w.cell? ⟨b, off, none⟩ = some (.complex .f64 z.1 z.2) := hc 0 (by simp)
        clear hc ih
        go_enter Tryz.func59, Tryz.ntmps59
        go_wp2_with fail
        go_ret
        exact CRet.mk0 (.one z)
    | z :: z' :: r, hm, hmax, hv =>
      rcases hv with ⟨_, h⟩ | ⟨b, off, cap, rfl, hcap, hc⟩
      · cases h
      · generalize hzs : z :: z' :: r = zs at *
        have h2 : 2 ≤ zs.length := by rw [← hzs]; simp
        clear hzs
        obtain ⟨len, hlen⟩ : ∃ len, len = zs.length := ⟨_, rfl⟩
        have c1 := hc.take (len / 2)
        have c2 := hc.drop (len / 2)
        have l1 : (zs.take (len / 2)).length = len / 2 := by rw [List.length_take]; omega
        have l2 : (zs.drop (len / 2)).length = len - len / 2 := by rw [List.length_drop]; omega
        have i1 := fun W (hW : Sl W (.slice (some ⟨b, off, none⟩) (len / 2) cap) (zs.take (len / 2))) => ih (zs.take (len / 2)) _ W (by omega) (by omega) hW
        have i2 := fun W (hW : Sl W (.slice (some ⟨b, off + len / 2, none⟩) (len - len / 2) (cap - len / 2)) (zs.drop (len / 2))) => ih (zs.drop (len / 2)) _ W (by omega) (by omega) hW
        have hmore := fun a b c d x y => HalvesR.more zs a b c d x y h2
        rw [← hlen] at hmore hcap h2 hmax ⊢
        have I1 := Lib.hid i1; have I2 := Lib.hid i2; have M := Lib.hid hmore; have C1 := Lib.hid c1; have C2 := Lib.hid c2; have L1 := Lib.hid l1; have L2 := Lib.hid l2
        clear i1 i2 hmore c1 c2 l1 l2 hc hlen hm ih
        have hmax' : (len : Int) ≤ 4611686018427387904 := by omega
        have h2' : (2 : Int) ≤ (len : Int) := by omega
        have hs1 : (0 : Int) ≤ (len : Int) / 2 := by omega
        have hs2 : (len : Int) / 2 ≤ (len : Int) := by omega
        have hs3 : (len : Int) / 2 ≤ (cap : Int) := by omega
        have hs4 : (len : Int) ≤ (cap : Int) := by omega
        have ht : ((len : Int) / 2).toNat = len / 2 := by omega
        have hne : ¬ cap = len / 2 := by omega
        go_enter Tryz.func59, Tryz.ntmps59
        go_wp2_with fail
        go_region_held3 (fun _ => True) (trivial) ((first | (go_at_call 59; ((with_reducible refine (I1.out _ ?s1).mono ?_); (case s1 => (right; exact ⟨b, off, cap, by rw [L1.out], by rw [L1.out]; omega, C1.out⟩)); rintro e w1 ⟨xa, xb, n1, H1, rfl, rfl⟩)) | (go_at_call 59; ((with_reducible refine (I2.out _ ?s2).mono ?_); (case s2 => (right; exact ⟨b, off + len / 2, cap - len / 2, by rw [L2.out], by rw [L2.out]; omega, C2.out⟩)); rintro e w2 ⟨xc, xd, n2, H2, rfl, rfl⟩)) | (go_at_call 15; (refine (add_any _ _ _ _ _).mono ?_); rintro e w3 ⟨x, y, n3, H3, rfl, rfl⟩)))
        go_wp2
        go_ret
        exact CRet.mk _ (M.out _ _ _ _ _ _ H1 H2 H3)

set_option maxHeartbeats 1000000 in
theorem sum_bad (zs : List Cpx) (v : Value) (order : Int) (w : World) (hv : Sl w v zs) (ho : ¬ (1 ≤ order ∧ order ≤ 3)) :
    Calls Tryz.prog 27 #[v, .int .i64 order] w (SumRet zs order w) := by
  have hd : order < 1 ∨ (¬ order < 1 ∧ 3 < order) := by omega
  have HO := Lib.hid ho; clear ho
  have hs : ∃ a len cap, v = .slice a len cap := by
    rcases hv with ⟨rfl, _⟩ | ⟨b, off, cap, rfl, _, _⟩
    · exact ⟨_, _, _, rfl⟩
    · exact ⟨_, _, _, rfl⟩
  obtain ⟨a, len, cap, rfl⟩ := hs
  rcases hd with hd | ⟨hd, hd2⟩
  all_goals
    go_enter Tryz.func27, Tryz.ntmps27
    go_wp2_with fail
    go_ret2
    refine SumRet.bad HO.out ?_
    exact ((RowKit.Below.refl _ _).alloc (Nat.le_refl _) _).alloc (by simp) _
set_option maxHeartbeats 1000000 in
theorem sum_halves (zs : List Cpx) (v : Value) (order : Int) (w : World) (hv : Sl w v zs) (h1 : 1 ≤ order) (h3 : order ≤ 3) (hmax : zs.length ≤ 4611686018427387904) (hl : zs.length < 2 ∨ order = 3) :
    Calls Tryz.prog 27 #[v, .int .i64 order] w (SumRet zs order w) := by
  have hfin := fun x y => SumR.short (zs := zs) (order := order) (x := x) (y := y) h1 h3 hl
  have HF := Lib.hid hfin; clear hfin
  have H1 := Lib.hid h1; have H3 := Lib.hid h3; have HV := Lib.hid hv
  have hs : ∃ a cap, v = .slice a zs.length cap := by
    rcases hv with ⟨rfl, h⟩ | ⟨b, off, cap, rfl, _, _⟩
    · subst h; exact ⟨_, _, rfl⟩
    · exact ⟨_, _, rfl⟩
  clear hv
  obtain ⟨a, cap, rfl⟩ := hs
  have HM := Lib.hid hmax
  have hh := fun (W : World) (h : Sl W (.slice a zs.length cap) zs) => halves_any zs.length zs _ W (Nat.le_refl _) hmax h
  have HH := Lib.hid hh; clear hh
  generalize hlen : zs.length = len at *
  clear hlen
  by_cases hl2 : len < 2
  · have hl' : (len : Int) < 2 := by omega
    clear hl
    go_enter Tryz.func27, Tryz.ntmps27
    go_wp2_with fail
    refine (HH.out _ ((HV.out.alloc _).alloc _)).mono ?_
    rintro e w1 ⟨x, y, n, h, rfl, rfl⟩
    go_wp2
    go_ret2
    refine SumRet.ok H1.out H3.out (HF.out _ _ h) ?_
    exact below_drewN (((RowKit.Below.refl _ _).alloc (Nat.le_refl _) _).alloc (by simp) _) _
  · obtain rfl : order = 3 := by omega
    have hl' : ¬ (len : Int) < 2 := by omega
    clear hl hl2
    go_enter Tryz.func27, Tryz.ntmps27
    go_wp2_with fail
    refine (HH.out _ ((HV.out.alloc _).alloc _)).mono ?_
    rintro e w1 ⟨x, y, n, h, rfl, rfl⟩
    go_wp2
    go_ret2
    refine SumRet.ok H1.out H3.out (HF.out _ _ h) ?_
    exact below_drewN (((RowKit.Below.refl _ _).alloc (Nat.le_refl _) _).alloc (by simp) _) _
/-- the closure: the i-th number to be added -/
theorem pick_any (zs : List Cpx) (b off cap : Nat) (order : Int) (i : Nat) (po pz pn : Addr) (w : World) (hi : i < zs.length) (hcap : zs.length ≤ cap) (hmax : zs.length ≤ 4611686018427387904)
    (hc : Cells w b off zs) (ho : w.cell? po = some (.int .i64 order)) (hz : w.cell? pz = some (.slice (some ⟨b, off, none⟩) zs.length cap)) (hn : w.cell? pn = some (.int .i64 ((zs.length : Int) - 1))) :
    Calls Tryz.prog 60 #[.int .i64 i, .pointer (some po), .pointer (some pz), .pointer (some pn)] w
      fun e w' => e = .returned (cv (nth (rowOf order zs) i)) ∧ w = w' := by
  by_cases h2 : order = 2
  · subst h2
    have hrev : nth zs.reverse i = nth zs (zs.length - 1 - i) := by
      simp only [nth, List.getD_eq_getElem?_getD]
      rw [List.getElem?_reverse hi]
    have c := hc (zs.length - 1 - i) (by omega)
    rw [← hrev] at c
    unfold rowOf
    rw [if_pos rfl]
    generalize nth zs.reverse i = z at *
    unfold cv at *
    have HC := Lib.hid hc; clear hc hrev
    generalize hlen : zs.length = len at *
    clear hlen HC
    have g1 : (i : Int) < (len : Int) := by omega
    have g2 : (len : Int) ≤ 4611686018427387904 := by omega
    have g3 : (len : Int) - 1 - (i : Int) = ((len - 1 - i : Nat) : Int) := by omega
    have g4 : ((len - 1 - i : Nat) : Int) < (len : Int) := by omega
    have g5 : (len : Int) ≤ (cap : Int) := by omega
    generalize (len - 1 - i) = j at *
    go_enter Tryz.func60, Tryz.ntmps60
    go_wp2
    go_ret
    exact ⟨rfl, rfl⟩
  · have c := hc i hi
    unfold rowOf
    rw [if_neg h2]
    have h2b : ((order : Int) == 2) = false := by simpa using h2
    generalize nth zs i = z at *
    unfold cv at *
    have HC := Lib.hid hc; clear hc h2
    generalize hlen : zs.length = len at *
    clear hlen HC hn
    have g1 : (i : Int) < (len : Int) := by omega
    have g2 : (len : Int) ≤ 4611686018427387904 := by omega
    have g5 : (len : Int) ≤ (cap : Int) := by omega
    go_enter Tryz.func60, Tryz.ntmps60
    go_wp2
    go_ret
    exact ⟨rfl, rfl⟩
set_option maxHeartbeats 2000000 in
theorem sum_loop (zs : List Cpx) (b off cap : Nat) (order : Int) (w : World) (ho : order = 1 ∨ order = 2) (hl : 2 ≤ zs.length) (hcap : zs.length ≤ cap) (hmax : zs.length ≤ 4611686018427387904) (hc : Cells w b off zs) :
    Calls Tryz.prog 27 #[.slice (some ⟨b, off, none⟩) zs.length cap, .int .i64 order] w (SumRet zs order w) := by
  have hmf : ∀ (fn : Fn) (first cap : Array Value) (w : World), (Instr.makeFunc fn first cap).run Tryz.prog w = .ok (.func fn first cap) w := fun _ _ _ _ => rfl
  have o1 : ¬ order < 1 := by omega
  have o2 : ¬ 3 < order := by omega
  have o3 : (order == 3) = false := by rw [beq_eq_false_iff_ne]; omega
  have hlb : b < w.heap.size := World.block_lt_of_cell? w _ (hc 0 (by omega))
  have hp := fun (i : Nat) (W : World) (h1 : i < zs.length) (hC : Cells W b off zs) h2 h3 h4 => pick_any zs b off cap order i ⟨w.heap.size + 1, 0, none⟩ ⟨w.heap.size, 0, none⟩ ⟨w.heap.size + 1 + 1, 0, none⟩ W h1 hcap hmax hC h2 h3 h4
  have hL := rowOf_len order zs
  have hfin := fun x y (h : FrontR (rowOf order zs) x y) => SumR.front ho h
  generalize rowOf order zs = L at *
  have HP := Lib.hid hp; have HC := Lib.hid hc; have HF := Lib.hid hfin
  clear hp hc ho hfin
  generalize hlen : zs.length = len at *
  have HLEN := Lib.hid hlen; have HL := Lib.hid hL
  clear hlen hcap hL
  have g0 : ¬ (len : Int) < 2 := by omega
  have g1 : (len : Int) ≤ 4611686018427387904 := by omega
  obtain ⟨W, hWdef⟩ : ∃ W, W = ((w.alloc (.cells #[.slice (some ⟨b, off, none⟩) len cap] 34)).alloc (.cells #[.int .i64 order] 3)).alloc (.cells #[.int .i64 ((len : Int) - 1)] 3) := ⟨_, rfl⟩
  have hW : RowKit.Below w.heap.size w W := by
    rw [hWdef]; exact (((RowKit.Below.refl _ _).alloc (Nat.le_refl _) _).alloc (by simp) _).alloc (by simp; omega) _
  have q1 : W.cell? ⟨w.heap.size, 0, none⟩ = some (.slice (some ⟨b, off, none⟩) len cap) := by
    rw [hWdef]; exact cell_old (cell_old (cell_new w _ _) _) _
  have q2 : W.cell? ⟨w.heap.size + 1, 0, none⟩ = some (.int .i64 order) := by
    rw [hWdef]; refine cell_old ?_ _
    have := cell_new (w.alloc (.cells #[.slice (some ⟨b, off, none⟩) len cap] 34)) (.int .i64 order) 3
    rw [World.size_alloc] at this; exact this
  have q3 : W.cell? ⟨w.heap.size + 1 + 1, 0, none⟩ = some (.int .i64 ((len : Int) - 1)) := by
    have := cell_new ((w.alloc (.cells #[.slice (some ⟨b, off, none⟩) len cap] 34)).alloc (.cells #[.int .i64 order] 3)) (.int .i64 ((len : Int) - 1)) 3
    rw [World.size_alloc, World.size_alloc] at this; rw [hWdef]; exact this
  have HW := Lib.hid hW; have Q1 := Lib.hid q1; have Q2 := Lib.hid q2; have HD := Lib.hid hWdef; clear hW q1 q2 hWdef
  go_enter Tryz.func27, Tryz.ntmps27
  go_wp2_with fail
  rw [← HD.out]
  refine (HP.out 0 W (by omega) (HC.out.below HW.out) Q2.out Q1.out q3).mono ?_
  rintro e w1 ⟨rfl, rfl⟩
  unfold cv
  go_wp2_with fail
  go_loopw [8, 9] (fun s i wr => ∃ k n x y : Nat, 1 ≤ k ∧ k ≤ len ∧ i = .int .i64 k ∧ s = .complex .f64 x y ∧ FrontR (L.take k) x y ∧ wr = W.drewN n) (fun _ i _ => len - (intOf i).toNat)
  case atStart => exact ⟨1, 0, _, _, by omega, by omega, rfl, rfl, FrontR.first (by rw [HL.out]; omega), rfl⟩
  case round =>
    obtain ⟨k, n, x, y, hk1, hk2, rfl, rfl, hF, rfl⟩ := hrel
    by_cases hlt : k < len
    · have hlt' : (k : Int) ≤ (len : Int) - 1 := by omega
      have hs := fun c d => FrontR.step (l := L) (c := c) (d := d) hk1 (by rw [HL.out]; exact hlt) hF
      have HS := Lib.hid hs; clear hs hF
      go_wp2_with fail
      refine (HP.out k (W.drewN n) hlt ((HC.out.below HW.out).drewN n) Q2.out Q1.out q3).mono ?_
      rintro e w1 ⟨rfl, rfl⟩
      unfold cv
      go_wp2_with fail
      refine (add_any _ _ _ _ _).mono ?_
      rintro e w1 ⟨c, d, m, hA, rfl, rfl⟩
      go_wp2_with fail
      exact ⟨⟨k + 1, n + m, c, d, by omega, by omega, by go_num, rfl, HS.out c d hA, rfl⟩, by simp [intOf]; omega⟩
    · have hge : ¬ (k : Int) ≤ (len : Int) - 1 := by omega
      obtain rfl : k = len := by omega
      have ht : L.take k = L := List.take_of_length_le (by rw [HL.out]; omega)
      rw [ht] at hF
      have HFF := HF.out _ _ hF
      have HG := Lib.hid HFF; clear HFF hF ht
      go_wp2_with fail
      go_ret2
      refine SumRet.ok ?_ ?_ HG.out (below_drewN HW.out n)
      · omega
      · omega
/-- Sum of any list in any order. -/
theorem csum_any (zs : List Cpx) (v : Value) (order : Int) (w : World) (hv : Sl w v zs) (hmax : zs.length ≤ 4611686018427387904) :
    Calls Tryz.prog 27 #[v, .int .i64 order] w (SumRet zs order w) := by
  by_cases ho : 1 ≤ order ∧ order ≤ 3
  · by_cases hl : zs.length < 2 ∨ order = 3
    · exact sum_halves zs v order w hv ho.1 ho.2 hmax hl
    · rcases hv with ⟨rfl, rfl⟩ | ⟨b, off, cap, rfl, hcap, hc⟩
      · exact absurd (.inl (by simp)) hl
      · exact sum_loop zs b off cap order w (by omega) (by omega) hcap hmax hc
  · exact sum_bad zs v order w hv ho
end Go.Proofs.YtokmommlabdcdaaGreat
namespace Go.Proofs.YtokmommlabdcdaaGreat
open Fl Go.RowKit

namespace CpxAwake
theorem a1 : Ieee.double.add 4607182418800017408 4613937818241073152 = some 4616189618054758400 := by decide +kernel
theorem a2 : Ieee.double.add 4611686018427387904 4616189618054758400 = some 4618441417868443648 := by decide +kernel
theorem s1 : Ieee.double.sub 4607182418800017408 4613937818241073152 = some 13835058055282163712 := by decide +kernel
theorem s2 : Ieee.double.sub 4611686018427387904 4616189618054758400 = some 13835058055282163712 := by decide +kernel
theorem m1 : Ieee.double.mul 4607182418800017408 4613937818241073152 = some 4613937818241073152 := by decide +kernel
theorem m2 : Ieee.double.mul 4611686018427387904 4616189618054758400 = some 4620693217682128896 := by decide +kernel
theorem m3 : Ieee.double.sub 4613937818241073152 4620693217682128896 = some 13840687554816376832 := by decide +kernel
theorem m4 : Ieee.double.mul 4607182418800017408 4616189618054758400 = some 4616189618054758400 := by decide +kernel
theorem m5 : Ieee.double.mul 4611686018427387904 4613937818241073152 = some 4618441417868443648 := by decide +kernel
theorem m6 : Ieee.double.add 4616189618054758400 4618441417868443648 = some 4621819117588971520 := by decide +kernel
theorem add_c (w : World) : Calls Tryz.prog 15 #[.complex .f64 4607182418800017408 4611686018427387904, .complex .f64 4613937818241073152 4616189618054758400] w fun e w' => ∃ n, e = .returned (.complex .f64 4616189618054758400 4618441417868443648) ∧ w' = w.drewN n := by
  refine (add_any _ _ _ _ _).mono ?_
  rintro e w' ⟨x, y, n, ⟨h1, h2⟩, rfl, rfl⟩
  exact ⟨n, by rw [Res.eq h1 a1, Res.eq h2 a2], rfl⟩
theorem sub_c (w : World) : Calls Tryz.prog 17 #[.complex .f64 4607182418800017408 4611686018427387904, .complex .f64 4613937818241073152 4616189618054758400] w fun e w' => ∃ n, e = .returned (.complex .f64 13835058055282163712 13835058055282163712) ∧ w' = w.drewN n := by
  refine (sub_any _ _ _ _ _).mono ?_
  rintro e w' ⟨x, y, n, ⟨h1, h2⟩, rfl, rfl⟩
  exact ⟨n, by rw [Res.eq h1 s1, Res.eq h2 s2], rfl⟩
theorem mul_c (w : World) : Calls Tryz.prog 19 #[.complex .f64 4607182418800017408 4611686018427387904, .complex .f64 4613937818241073152 4616189618054758400] w fun e w' => ∃ n, e = .returned (.complex .f64 13840687554816376832 4621819117588971520) ∧ w' = w.drewN n := by
  refine (mul_any _ _ _ _ _).mono ?_
  rintro e w' ⟨x, y, n, ⟨p, q, r, s, h1, h2, h3, h4, h5, h6⟩, rfl, rfl⟩
  obtain rfl := Res.eq h1 m1
  obtain rfl := Res.eq h2 m2
  obtain rfl := Res.eq h4 m4
  obtain rfl := Res.eq h5 m5
  exact ⟨n, by rw [Res.eq h3 m3, Res.eq h6 m6], rfl⟩
-- (-5 + 10 i) / (3 + 4 i): |3| < |4|: r = 3/4, t = 3 r + 4
theorem d0 : geB (rg 4613937818241073152) (rg 4616189618054758400) = false := by decide +kernel
theorem d1 : Ieee.double.div 4613937818241073152 4616189618054758400 = some 4604930618986332160 := by decide +kernel
theorem d2 : Ieee.double.mul 4613937818241073152 4604930618986332160 = some 4612248968380809216 := by decide +kernel
theorem d3 : Ieee.double.add 4612248968380809216 4616189618054758400 = some 4618722892845154304 := by decide +kernel
theorem d4 : Ieee.double.mul 13840687554816376832 4604930618986332160 = some 13838998704956112896 := by decide +kernel
theorem d5 : Ieee.double.add 13838998704956112896 4621819117588971520 = some 4618722892845154304 := by decide +kernel
theorem d6 : Ieee.double.div 4618722892845154304 4618722892845154304 = some 4607182418800017408 := by decide +kernel
theorem d7 : Ieee.double.mul 4621819117588971520 4604930618986332160 = some 4620130267728707584 := by decide +kernel
theorem d8 : Ieee.double.sub 4620130267728707584 13840687554816376832 = some 4623226492472524800 := by decide +kernel
theorem d9 : Ieee.double.div 4623226492472524800 4618722892845154304 = some 4611686018427387904 := by decide +kernel
theorem div_c (w : World) : Calls Tryz.prog 23 #[.complex .f64 13840687554816376832 4621819117588971520, .complex .f64 4613937818241073152 4616189618054758400] w fun e w' => ∃ n, e = .returned (.complex .f64 4607182418800017408 4611686018427387904) ∧ w' = w.drewN n := by
  refine (div_any _ _ _ _ (by decide) (by decide) _).mono ?_
  rintro e w' ⟨x, y, n, h | h, rfl, rfl⟩
  · exact absurd h.1 (by rw [d0]; decide)
  · obtain ⟨_, r, m, t, m1, n1, m2, n2, h1, h2, h3, h4, h5, h6, h7, h8, h9⟩ := h
    obtain rfl := Res.eq h1 d1
    obtain rfl := Res.eq h2 d2
    obtain rfl := Res.eq h3 d3
    obtain rfl := Res.eq h4 d4
    obtain rfl := Res.eq h5 d5
    obtain rfl := Res.eq h7 d7
    obtain rfl := Res.eq h8 d8
    exact ⟨n, by rw [Res.eq h6 d6, Res.eq h9 d9], rfl⟩
theorem c1 : Ieee.double.mul 4607182418800017408 4611686018427387904 = some 4611686018427387904 := by decide +kernel
theorem c2 : Ieee.double.mul 4611686018427387904 4611686018427387904 = some 4616189618054758400 := by decide +kernel
theorem scale_c (w : World) : Calls Tryz.prog 21 #[.complex .f64 4607182418800017408 4611686018427387904, .float .f64 4611686018427387904] w fun e w' => ∃ n, e = .returned (.complex .f64 4611686018427387904 4616189618054758400) ∧ w' = w.drewN n := by
  refine (scale_any _ _ _ _).mono ?_
  rintro e w' ⟨x, y, n, ⟨h1, h2⟩, rfl, rfl⟩
  exact ⟨n, by rw [Res.eq h1 c1, Res.eq h2 c2], rfl⟩
theorem conj_c (w : World) : Calls Tryz.prog 41 #[.complex .f64 4607182418800017408 4611686018427387904] w fun e w' => e = .returned (.complex .f64 4607182418800017408 13835058055282163712) ∧ w = w' :=
  conj_any _ _ (by decide) w
theorem neg_c (w : World) : Calls Tryz.prog 43 #[.complex .f64 4607182418800017408 4611686018427387904] w fun e w' => e = .returned (.complex .f64 13830554455654793216 13835058055282163712) ∧ w = w' :=
  neg_any _ _ (by decide) (by decide) w
theorem k0 : fmax (rg 4613937818241073152) (rg 4616189618054758400) = 4616189618054758400 := by decide +kernel
theorem size_c (w : World) : Calls Tryz.prog 44 #[.complex .f64 4613937818241073152 4616189618054758400] w fun e w' => e = .returned (.float .f64 4616189618054758400) ∧ w = w' := by
  refine (csize_any _ _ (by decide) (by decide) w).mono ?_
  rintro e w' ⟨rfl, rfl⟩
  exact ⟨by rw [k0], rfl⟩
theorem k1 : clsC 4607182418800017408 4611686018427387904 = 4 := by decide +kernel
theorem class_c (w : World) : Calls Tryz.prog 45 #[.complex .f64 4607182418800017408 4611686018427387904] w fun e w' => e = .returned (.int .i64 4) ∧ w = w' := by
  refine (cclass_any _ _ (by decide) (by decide) w).mono ?_
  rintro e w' ⟨rfl, rfl⟩
  exact ⟨by rw [k1], rfl⟩
theorem k2 : sameCB 4607182418800017408 4611686018427387904 4607182418800017408 4611686018427387904 = true := by decide +kernel
theorem k3 : sameCB 4607182418800017408 4611686018427387904 4613937818241073152 4616189618054758400 = false := by decide +kernel
theorem k4 : (eqB 4613937818241073152 4613937818241073152 && eqB 4616189618054758400 4616189618054758400) = true := by decide +kernel
theorem k5 : (eqB 4607182418800017408 4613937818241073152 && eqB 4611686018427387904 4616189618054758400) = false := by decide +kernel
theorem same_c1 (w : World) : Calls Tryz.prog 46 #[.complex .f64 4607182418800017408 4611686018427387904, .complex .f64 4607182418800017408 4611686018427387904] w fun e w' => e = .returned (.bool true) ∧ w = w' := by
  refine (csame_any _ _ _ _ (by decide) (by decide) (by decide) (by decide) w).mono ?_
  rintro e w' ⟨rfl, rfl⟩
  exact ⟨by rw [k2], rfl⟩
theorem same_c2 (w : World) : Calls Tryz.prog 46 #[.complex .f64 4607182418800017408 4611686018427387904, .complex .f64 4613937818241073152 4616189618054758400] w fun e w' => e = .returned (.bool false) ∧ w = w' := by
  refine (csame_any _ _ _ _ (by decide) (by decide) (by decide) (by decide) w).mono ?_
  rintro e w' ⟨rfl, rfl⟩
  exact ⟨by rw [k3], rfl⟩
theorem equal_c1 (w : World) : Calls Tryz.prog 47 #[.complex .f64 4613937818241073152 4616189618054758400, .complex .f64 4613937818241073152 4616189618054758400] w fun e w' => e = .returned (.bool true) ∧ w = w' := by
  refine (cequal_any _ _ _ _ w).mono ?_
  rintro e w' ⟨rfl, rfl⟩
  exact ⟨by rw [k4], rfl⟩
theorem equal_c2 (w : World) : Calls Tryz.prog 47 #[.complex .f64 4607182418800017408 4611686018427387904, .complex .f64 4613937818241073152 4616189618054758400] w fun e w' => e = .returned (.bool false) ∧ w = w' := by
  refine (cequal_any _ _ _ _ w).mono ?_
  rintro e w' ⟨rfl, rfl⟩
  exact ⟨by rw [k5], rfl⟩
theorem sum_c (b : Nat) (w : World) (h1 : w.cell? ⟨b, 0, none⟩ = some (.complex .f64 4607182418800017408 4611686018427387904)) (h2 : w.cell? ⟨b, 1, none⟩ = some (.complex .f64 4613937818241073152 4616189618054758400)) :
    Calls Tryz.prog 27 #[.slice (some ⟨b, 0, none⟩) 2 2, .int .i64 1] w fun e w' => e = .returned (.tuple #[.complex .f64 4616189618054758400 4618441417868443648, .int .i64 0]) ∧ Below w.heap.size w w' := by
  have hs : Sl w (.slice (some ⟨b, 0, none⟩) 2 2) [(4607182418800017408, 4611686018427387904), (4613937818241073152, 4616189618054758400)] := by
    refine .inr ⟨b, 0, 2, rfl, by decide, fun i hi => ?_⟩
    match i, hi with
    | 0, _ => exact h1
    | 1, _ => exact h2
  refine (csum_any _ _ 1 w hs (by decide)).mono ?_
  rintro e w' ⟨x, y, code, rfl, h | h, hb⟩
  · obtain ⟨_, _, rfl, h⟩ := h
    rcases h with ⟨_, h⟩ | ⟨h, _⟩ | ⟨h, _⟩
    · cases h with
      | cons _ _ _ _ c d _ _ hA hF =>
        cases hF
        exact ⟨by rw [Res.eq hA.1 a1, Res.eq hA.2 a2], hb⟩
    · exact absurd h (by decide)
    · exact absurd h (by decide)
  · exact absurd ⟨by decide, by decide⟩ h.1
theorem o1 : FloatKind.f64.format.order 4616189618054758400 4616189618054758400 = some Ordering.eq := by decide +kernel
theorem o2 : FloatKind.f64.format.order 4618441417868443648 4618441417868443648 = some Ordering.eq := by decide +kernel
theorem o3 : FloatKind.f64.format.order 13835058055282163712 13835058055282163712 = some Ordering.eq := by decide +kernel
theorem o4 : FloatKind.f64.format.order 13840687554816376832 13840687554816376832 = some Ordering.eq := by decide +kernel
theorem o5 : FloatKind.f64.format.order 4621819117588971520 4621819117588971520 = some Ordering.eq := by decide +kernel
theorem o6 : FloatKind.f64.format.order 4607182418800017408 4607182418800017408 = some Ordering.eq := by decide +kernel
theorem o7 : FloatKind.f64.format.order 4611686018427387904 4611686018427387904 = some Ordering.eq := by decide +kernel
theorem o8 : FloatKind.f64.format.order 13830554455654793216 13830554455654793216 = some Ordering.eq := by decide +kernel
theorem o9 : FloatKind.f64.format.order 4613937818241073152 4613937818241073152 = some Ordering.eq := by decide +kernel
theorem p1 : FloatKind.f32.format.order 1065353216 1065353216 = some Ordering.eq := by decide +kernel
theorem p2 : FloatKind.f32.format.order 1073741824 1073741824 = some Ordering.eq := by decide +kernel
theorem v1 (w : World) : (convert 31 81 (.float .f64 4607182418800017408)).run Tryz.prog w = .ok (.float .f32 1065353216) w := by kernel_rfl
theorem v2 (w : World) : (convert 31 81 (.float .f64 4611686018427387904)).run Tryz.prog w = .ok (.float .f32 1073741824) w := by kernel_rfl
theorem v3 (w : World) : (convert 61 26 (.complex .f32 1077936128 1082130432)).run Tryz.prog w = .ok (.complex .f64 4613937818241073152 4616189618054758400) w := by kernel_rfl
theorem narrow_c (w : World) : Calls Tryz.prog 48 #[.complex .f64 4607182418800017408 4611686018427387904] w fun e w' => e = .returned (.complex .f32 1065353216 1073741824) ∧ w = w' := by
  have h1 := v1
  have h2 := v2
  go_enter Tryz.func48, Tryz.ntmps48
  go_wp2
  go_ret
  exact ⟨rfl, rfl⟩
theorem wide_c (w : World) : Calls Tryz.prog 49 #[.complex .f32 1077936128 1082130432] w fun e w' => e = .returned (.complex .f64 4613937818241073152 4616189618054758400) ∧ w = w' := by
  have h1 := v3
  go_enter Tryz.func49, Tryz.ntmps49
  go_wp2
  go_ret
  exact ⟨rfl, rfl⟩

theorem cell_row0 (w : World) (u v : Value) (t : TypeId) : (w.alloc (.cells #[u, v] t)).cell? ⟨w.heap.size, 0, none⟩ = some u := by
  unfold World.cell?
  have : (w.alloc (.cells #[u, v] t)).heap[w.heap.size]? = some (.cells #[u, v] t) := by
    show (w.heap.push _)[w.heap.size]? = _
    simp
  simp only [this]
  rfl
theorem cell_row1 (w : World) (u v : Value) (t : TypeId) : (w.alloc (.cells #[u, v] t)).cell? ⟨w.heap.size, 1, none⟩ = some v := by
  unfold World.cell?
  have : (w.alloc (.cells #[u, v] t)).heap[w.heap.size]? = some (.cells #[u, v] t) := by
    show (w.heap.push _)[w.heap.size]? = _
    simp
  simp only [this]
  rfl
set_option maxHeartbeats 1000000 in
set_option maxRecDepth 100000 in
theorem awake_any (w : World) : Calls Tryz.prog 12 #[] w fun e w' => e = .returned (.bool true) ∧ Below w.heap.size w w' := by
  have h1 := o1
  have h2 := o2
  have h3 := o3
  have h4 := o4
  have h5 := o5
  have h6 := o6
  have h7 := o7
  have h8 := o8
  have h9 := o9
  have h10 := p1
  have h11 := p2
  go_enter Tryz.func12, Tryz.ntmps12
  go_wp2_with fail
  refine (sum_c _ _ (cell_row0 _ _ _ _) (cell_row1 _ _ _ _)).mono ?_
  rintro e w1 ⟨rfl, hb⟩
  have hB : Below w.heap.size w w1 := (below_alloc w _).trans (hb.mono (by rw [World.size_alloc]; omega))
  have HB := Lib.hid hB; clear hB hb
  go_wp2_with fail
  refine (add_c _).mono ?_
  rintro e w2 ⟨n1, rfl, rfl⟩
  go_wp2_with fail
  refine (sub_c _).mono ?_
  rintro e w2 ⟨n2, rfl, rfl⟩
  go_wp2_with fail
  refine (mul_c _).mono ?_
  rintro e w2 ⟨n3, rfl, rfl⟩
  go_wp2_with fail
  refine (div_c _).mono ?_
  rintro e w2 ⟨n4, rfl, rfl⟩
  go_wp2_with fail
  refine (conj_c _).mono ?_
  rintro e w2 ⟨rfl, rfl⟩
  go_wp2_with fail
  refine (neg_c _).mono ?_
  rintro e w2 ⟨rfl, rfl⟩
  go_wp2_with fail
  refine (scale_c _).mono ?_
  rintro e w2 ⟨n5, rfl, rfl⟩
  go_wp2_with fail
  refine (size_c _).mono ?_
  rintro e w2 ⟨rfl, rfl⟩
  go_wp2_with fail
  refine (class_c _).mono ?_
  rintro e w2 ⟨rfl, rfl⟩
  go_wp2_with fail
  refine (same_c1 _).mono ?_
  rintro e w2 ⟨rfl, rfl⟩
  go_wp2_with fail
  refine (equal_c1 _).mono ?_
  rintro e w2 ⟨rfl, rfl⟩
  go_wp2_with fail
  refine (same_c2 _).mono ?_
  rintro e w2 ⟨rfl, rfl⟩
  go_wp2_with fail
  refine (equal_c2 _).mono ?_
  rintro e w2 ⟨rfl, rfl⟩
  go_wp2_with fail
  refine (num_any _ _).mono ?_
  rintro e w2 ⟨rfl, rfl⟩
  go_wp2_with fail
  refine (narrow_c _).mono ?_
  rintro e w2 ⟨rfl, rfl⟩
  go_wp2_with fail
  refine (wide_c _).mono ?_
  rintro e w2 ⟨rfl, rfl⟩
  go_wp2_with fail
  go_ret
  exact ⟨rfl, below_drewN HB.out _⟩
end CpxAwake
end Go.Proofs.YtokmommlabdcdaaGreat
