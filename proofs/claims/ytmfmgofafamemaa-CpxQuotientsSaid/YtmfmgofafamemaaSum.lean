/- Contracts of cpx.Sum and what it calls: the answer is one of the sums that SumR allows; nothing that was there is written. -/
import Derived.Test.YtmfmgofafamemaaCpx
import Derived.Test.YtmfmgofafamemaaFlList
import Derived.Deep.RegionHeld3
namespace Go.Proofs.Ytmfmgofafamemaa
open Fl Go.RowKit

set_option maxHeartbeats 1000000 in
theorem halves_any : ∀ (m : Nat) (zs : List Cpx) (v : Value) (w : World), zs.length ≤ m → zs.length ≤ 4611686018427387904 → Sl w v zs →
    Calls Try.prog 43 #[v] w (CRet (HalvesR zs) w) := by
  intro m
  induction m with
  | zero =>
    intro zs v w hm _ hv
    obtain rfl : zs = [] := List.eq_nil_of_length_eq_zero (by omega)
    rcases hv with ⟨rfl, _⟩ | ⟨b, off, cap, rfl, _, _⟩
    · go_enter Try.func43, Try.ntmps43
      go_wp2_with fail
      go_ret
      exact CRet.mk0 .nil
    · go_enter Try.func43, Try.ntmps43
      go_wp2_with fail
      go_ret
      exact CRet.mk0 .nil
  | succ m ih =>
    intro zs v w hm hmax hv
    match zs, hm, hmax, hv with
    | [], _, _, hv =>
      rcases hv with ⟨rfl, _⟩ | ⟨b, off, cap, rfl, _, _⟩
      · go_enter Try.func43, Try.ntmps43
        go_wp2_with fail
        go_ret
        exact CRet.mk0 .nil
      · go_enter Try.func43, Try.ntmps43
        go_wp2_with fail
        go_ret
        exact CRet.mk0 .nil
    | [z], _, _, hv =>
      rcases hv with ⟨_, h⟩ | ⟨b, off, cap, rfl, hcap, hc⟩
      · cases h
      · have hc0 : w.cell? ⟨b, off, none⟩ = some (.complex .f64 z.1 z.2) := hc 0 (by simp)
        clear hc ih
        go_enter Try.func43, Try.ntmps43
        go_wp2_with fail
        go_ret
        exact CRet.mk0 (.one z)
    | z :: z' :: r, hm, hmax, hv =>
      rcases hv with ⟨_, h⟩ | ⟨b, off, cap, rfl, hcap, hc⟩
      · cases h
      · generalize hzs : z :: z' :: r = zs at *
        have h2 : 2 ≤ zs.length := by rw [← hzs]; simp
        clear hzs
        obtain ⟨len, hlen⟩ : ∃ len, len = zs.length := ⟨_, rfl⟩
        have c1 := hc.take (len / 2)
        have c2 := hc.drop (len / 2)
        have l1 : (zs.take (len / 2)).length = len / 2 := by rw [List.length_take]; omega
        have l2 : (zs.drop (len / 2)).length = len - len / 2 := by rw [List.length_drop]; omega
        have i1 := fun W (hW : Sl W (.slice (some ⟨b, off, none⟩) (len / 2) cap) (zs.take (len / 2))) => ih (zs.take (len / 2)) _ W (by omega) (by omega) hW
        have i2 := fun W (hW : Sl W (.slice (some ⟨b, off + len / 2, none⟩) (len - len / 2) (cap - len / 2)) (zs.drop (len / 2))) => ih (zs.drop (len / 2)) _ W (by omega) (by omega) hW
        have hmore := fun a b c d x y => HalvesR.more zs a b c d x y h2
        rw [← hlen] at hmore hcap h2 hmax ⊢
        have I1 := Lib.hid i1; have I2 := Lib.hid i2; have M := Lib.hid hmore; have C1 := Lib.hid c1; have C2 := Lib.hid c2; have L1 := Lib.hid l1; have L2 := Lib.hid l2
        clear i1 i2 hmore c1 c2 l1 l2 hc hlen hm ih
        have hmax' : (len : Int) ≤ 4611686018427387904 := by omega
        have h2' : (2 : Int) ≤ (len : Int) := by omega
        have hs1 : (0 : Int) ≤ (len : Int) / 2 := by omega
        have hs2 : (len : Int) / 2 ≤ (len : Int) := by omega
        have hs3 : (len : Int) / 2 ≤ (cap : Int) := by omega
        have hs4 : (len : Int) ≤ (cap : Int) := by omega
        have ht : ((len : Int) / 2).toNat = len / 2 := by omega
        have hne : ¬ cap = len / 2 := by omega
        go_enter Try.func43, Try.ntmps43
        go_wp2_with fail
        go_region_held3 (fun _ => True) (trivial) ((first | (go_at_call 43; ((with_reducible refine (I1.out _ ?s1).mono ?_); (case s1 => (right; exact ⟨b, off, cap, by rw [L1.out], by rw [L1.out]; omega, C1.out⟩)); rintro e w1 ⟨xa, xb, n1, H1, rfl, rfl⟩)) | (go_at_call 43; ((with_reducible refine (I2.out _ ?s2).mono ?_); (case s2 => (right; exact ⟨b, off + len / 2, cap - len / 2, by rw [L2.out], by rw [L2.out]; omega, C2.out⟩)); rintro e w2 ⟨xc, xd, n2, H2, rfl, rfl⟩)) | (go_at_call 16; (refine (add_any _ _ _ _ _).mono ?_); rintro e w3 ⟨x, y, n3, H3, rfl, rfl⟩)))
        go_wp2
        go_ret
        exact CRet.mk _ (M.out _ _ _ _ _ _ H1 H2 H3)

set_option maxHeartbeats 1000000 in
theorem sum_bad (zs : List Cpx) (v : Value) (order : Int) (w : World) (hv : Sl w v zs) (ho : ¬ (1 ≤ order ∧ order ≤ 3)) :
    Calls Try.prog 24 #[v, .int .i64 order] w (SumRet zs order w) := by
  have hd : order < 1 ∨ (¬ order < 1 ∧ 3 < order) := by omega
  have HO := Lib.hid ho; clear ho
  have hs : ∃ a len cap, v = .slice a len cap := by
    rcases hv with ⟨rfl, _⟩ | ⟨b, off, cap, rfl, _, _⟩
    · exact ⟨_, _, _, rfl⟩
    · exact ⟨_, _, _, rfl⟩
  obtain ⟨a, len, cap, rfl⟩ := hs
  rcases hd with hd | ⟨hd, hd2⟩
  all_goals
    go_enter Try.func24, Try.ntmps24
    go_wp2_with fail
    go_ret2
    refine SumRet.bad HO.out ?_
    exact ((RowKit.Below.refl _ _).alloc (Nat.le_refl _) _).alloc (by simp) _
set_option maxHeartbeats 1000000 in
theorem sum_halves (zs : List Cpx) (v : Value) (order : Int) (w : World) (hv : Sl w v zs) (h1 : 1 ≤ order) (h3 : order ≤ 3) (hmax : zs.length ≤ 4611686018427387904) (hl : zs.length < 2 ∨ order = 3) :
    Calls Try.prog 24 #[v, .int .i64 order] w (SumRet zs order w) := by
  have hfin := fun x y => SumR.short (zs := zs) (order := order) (x := x) (y := y) h1 h3 hl
  have HF := Lib.hid hfin; clear hfin
  have H1 := Lib.hid h1; have H3 := Lib.hid h3; have HV := Lib.hid hv
  have hs : ∃ a cap, v = .slice a zs.length cap := by
    rcases hv with ⟨rfl, h⟩ | ⟨b, off, cap, rfl, _, _⟩
    · subst h; exact ⟨_, _, rfl⟩
    · exact ⟨_, _, rfl⟩
  clear hv
  obtain ⟨a, cap, rfl⟩ := hs
  have HM := Lib.hid hmax
  have hh := fun (W : World) (h : Sl W (.slice a zs.length cap) zs) => halves_any zs.length zs _ W (Nat.le_refl _) hmax h
  have HH := Lib.hid hh; clear hh
  generalize hlen : zs.length = len at *
  clear hlen
  by_cases hl2 : len < 2
  · have hl' : (len : Int) < 2 := by omega
    clear hl
    go_enter Try.func24, Try.ntmps24
    go_wp2_with fail
    refine (HH.out _ ((HV.out.alloc _).alloc _)).mono ?_
    rintro e w1 ⟨x, y, n, h, rfl, rfl⟩
    go_wp2
    go_ret2
    refine SumRet.ok H1.out H3.out (HF.out _ _ h) ?_
    exact below_drewN (((RowKit.Below.refl _ _).alloc (Nat.le_refl _) _).alloc (by simp) _) _
  · obtain rfl : order = 3 := by omega
    have hl' : ¬ (len : Int) < 2 := by omega
    clear hl hl2
    go_enter Try.func24, Try.ntmps24
    go_wp2_with fail
    refine (HH.out _ ((HV.out.alloc _).alloc _)).mono ?_
    rintro e w1 ⟨x, y, n, h, rfl, rfl⟩
    go_wp2
    go_ret2
    refine SumRet.ok H1.out H3.out (HF.out _ _ h) ?_
    exact below_drewN (((RowKit.Below.refl _ _).alloc (Nat.le_refl _) _).alloc (by simp) _) _
/-- the closure: the i-th number to be added -/
theorem pick_any (zs : List Cpx) (b off cap : Nat) (order : Int) (i : Nat) (po pz pn : Addr) (w : World) (hi : i < zs.length) (hcap : zs.length ≤ cap) (hmax : zs.length ≤ 4611686018427387904)
    (hc : Cells w b off zs) (ho : w.cell? po = some (.int .i64 order)) (hz : w.cell? pz = some (.slice (some ⟨b, off, none⟩) zs.length cap)) (hn : w.cell? pn = some (.int .i64 ((zs.length : Int) - 1))) :
    Calls Try.prog 44 #[.int .i64 i, .pointer (some po), .pointer (some pz), .pointer (some pn)] w
      fun e w' => e = .returned (cv (nth (rowOf order zs) i)) ∧ w = w' := by
  by_cases h2 : order = 2
  · subst h2
    have hrev : nth zs.reverse i = nth zs (zs.length - 1 - i) := by
      simp only [nth, List.getD_eq_getElem?_getD]
      rw [List.getElem?_reverse hi]
    have c := hc (zs.length - 1 - i) (by omega)
    rw [← hrev] at c
    unfold rowOf
    rw [if_pos rfl]
    generalize nth zs.reverse i = z at *
    unfold cv at *
    have HC := Lib.hid hc; clear hc hrev
    generalize hlen : zs.length = len at *
    clear hlen HC
    have g1 : (i : Int) < (len : Int) := by omega
    have g2 : (len : Int) ≤ 4611686018427387904 := by omega
    have g3 : (len : Int) - 1 - (i : Int) = ((len - 1 - i : Nat) : Int) := by omega
    have g4 : ((len - 1 - i : Nat) : Int) < (len : Int) := by omega
    have g5 : (len : Int) ≤ (cap : Int) := by omega
    generalize (len - 1 - i) = j at *
    go_enter Try.func44, Try.ntmps44
    go_wp2
    go_ret
    exact ⟨rfl, rfl⟩
  · have c := hc i hi
    unfold rowOf
    rw [if_neg h2]
    have h2b : ((order : Int) == 2) = false := by simpa using h2
    generalize nth zs i = z at *
    unfold cv at *
    have HC := Lib.hid hc; clear hc h2
    generalize hlen : zs.length = len at *
    clear hlen HC hn
    have g1 : (i : Int) < (len : Int) := by omega
    have g2 : (len : Int) ≤ 4611686018427387904 := by omega
    have g5 : (len : Int) ≤ (cap : Int) := by omega
    go_enter Try.func44, Try.ntmps44
    go_wp2
    go_ret
    exact ⟨rfl, rfl⟩
set_option maxHeartbeats 2000000 in
theorem sum_loop (zs : List Cpx) (b off cap : Nat) (order : Int) (w : World) (ho : order = 1 ∨ order = 2) (hl : 2 ≤ zs.length) (hcap : zs.length ≤ cap) (hmax : zs.length ≤ 4611686018427387904) (hc : Cells w b off zs) :
    Calls Try.prog 24 #[.slice (some ⟨b, off, none⟩) zs.length cap, .int .i64 order] w (SumRet zs order w) := by
  have hmf : ∀ (fn : Fn) (first cap : Array Value) (w : World), (Instr.makeFunc fn first cap).run Try.prog w = .ok (.func fn first cap) w := fun _ _ _ _ => rfl
  have o1 : ¬ order < 1 := by omega
  have o2 : ¬ 3 < order := by omega
  have o3 : (order == 3) = false := by rw [beq_eq_false_iff_ne]; omega
  have hlb : b < w.heap.size := World.block_lt_of_cell? w _ (hc 0 (by omega))
  have hp := fun (i : Nat) (W : World) (h1 : i < zs.length) (hC : Cells W b off zs) h2 h3 h4 => pick_any zs b off cap order i ⟨w.heap.size + 1, 0, none⟩ ⟨w.heap.size, 0, none⟩ ⟨w.heap.size + 1 + 1, 0, none⟩ W h1 hcap hmax hC h2 h3 h4
  have hL := rowOf_len order zs
  have hfin := fun x y (h : FrontR (rowOf order zs) x y) => SumR.front ho h
  generalize rowOf order zs = L at *
  have HP := Lib.hid hp; have HC := Lib.hid hc; have HF := Lib.hid hfin
  clear hp hc ho hfin
  generalize hlen : zs.length = len at *
  have HLEN := Lib.hid hlen; have HL := Lib.hid hL
  clear hlen hcap hL
  have g0 : ¬ (len : Int) < 2 := by omega
  have g1 : (len : Int) ≤ 4611686018427387904 := by omega
  obtain ⟨W, hWdef⟩ : ∃ W, W = ((w.alloc (.cells #[.slice (some ⟨b, off, none⟩) len cap] 22)).alloc (.cells #[.int .i64 order] 3)).alloc (.cells #[.int .i64 ((len : Int) - 1)] 3) := ⟨_, rfl⟩
  have hW : RowKit.Below w.heap.size w W := by
    rw [hWdef]; exact (((RowKit.Below.refl _ _).alloc (Nat.le_refl _) _).alloc (by simp) _).alloc (by simp; omega) _
  have q1 : W.cell? ⟨w.heap.size, 0, none⟩ = some (.slice (some ⟨b, off, none⟩) len cap) := by
    rw [hWdef]; exact cell_old (cell_old (cell_new w _ _) _) _
  have q2 : W.cell? ⟨w.heap.size + 1, 0, none⟩ = some (.int .i64 order) := by
    rw [hWdef]; refine cell_old ?_ _
    have := cell_new (w.alloc (.cells #[.slice (some ⟨b, off, none⟩) len cap] 22)) (.int .i64 order) 3
    rw [World.size_alloc] at this; exact this
  have q3 : W.cell? ⟨w.heap.size + 1 + 1, 0, none⟩ = some (.int .i64 ((len : Int) - 1)) := by
    have := cell_new ((w.alloc (.cells #[.slice (some ⟨b, off, none⟩) len cap] 22)).alloc (.cells #[.int .i64 order] 3)) (.int .i64 ((len : Int) - 1)) 3
    rw [World.size_alloc, World.size_alloc] at this; rw [hWdef]; exact this
  have HW := Lib.hid hW; have Q1 := Lib.hid q1; have Q2 := Lib.hid q2; have HD := Lib.hid hWdef; clear hW q1 q2 hWdef
  go_enter Try.func24, Try.ntmps24
  go_wp2_with fail
  rw [← HD.out]
  refine (HP.out 0 W (by omega) (HC.out.below HW.out) Q2.out Q1.out q3).mono ?_
  rintro e w1 ⟨rfl, rfl⟩
  unfold cv
  go_wp2_with fail
  go_loopw [8, 9] (fun s i wr => ∃ k n x y : Nat, 1 ≤ k ∧ k ≤ len ∧ i = .int .i64 k ∧ s = .complex .f64 x y ∧ FrontR (L.take k) x y ∧ wr = W.drewN n) (fun _ i _ => len - (intOf i).toNat)
  case atStart => exact ⟨1, 0, _, _, by omega, by omega, rfl, rfl, FrontR.first (by rw [HL.out]; omega), rfl⟩
  case round =>
    obtain ⟨k, n, x, y, hk1, hk2, rfl, rfl, hF, rfl⟩ := hrel
    by_cases hlt : k < len
    · have hlt' : (k : Int) ≤ (len : Int) - 1 := by omega
      have hs := fun c d => FrontR.step (l := L) (c := c) (d := d) hk1 (by rw [HL.out]; exact hlt) hF
      have HS := Lib.hid hs; clear hs hF
      go_wp2_with fail
      refine (HP.out k (W.drewN n) hlt ((HC.out.below HW.out).drewN n) Q2.out Q1.out q3).mono ?_
      rintro e w1 ⟨rfl, rfl⟩
      unfold cv
      go_wp2_with fail
      refine (add_any _ _ _ _ _).mono ?_
      rintro e w1 ⟨c, d, m, hA, rfl, rfl⟩
      go_wp2_with fail
      exact ⟨⟨k + 1, n + m, c, d, by omega, by omega, by go_num, rfl, HS.out c d hA, rfl⟩, by simp [intOf]; omega⟩
    · have hge : ¬ (k : Int) ≤ (len : Int) - 1 := by omega
      obtain rfl : k = len := by omega
      have ht : L.take k = L := List.take_of_length_le (by rw [HL.out]; omega)
      rw [ht] at hF
      have HFF := HF.out _ _ hF
      have HG := Lib.hid HFF; clear HFF hF ht
      go_wp2_with fail
      go_ret2
      refine SumRet.ok ?_ ?_ HG.out (below_drewN HW.out n)
      · omega
      · omega
/-- Sum of any list in any order. -/
theorem sum_any (zs : List Cpx) (v : Value) (order : Int) (w : World) (hv : Sl w v zs) (hmax : zs.length ≤ 4611686018427387904) :
    Calls Try.prog 24 #[v, .int .i64 order] w (SumRet zs order w) := by
  by_cases ho : 1 ≤ order ∧ order ≤ 3
  · by_cases hl : zs.length < 2 ∨ order = 3
    · exact sum_halves zs v order w hv ho.1 ho.2 hmax hl
    · rcases hv with ⟨rfl, rfl⟩ | ⟨b, off, cap, rfl, hcap, hc⟩
      · exact absurd (.inl (by simp)) hl
      · exact sum_loop zs b off cap order w (by omega) (by omega) hcap hmax hc
  · exact sum_bad zs v order w hv ho
end Go.Proofs.Ytmfmgofafamemaa
