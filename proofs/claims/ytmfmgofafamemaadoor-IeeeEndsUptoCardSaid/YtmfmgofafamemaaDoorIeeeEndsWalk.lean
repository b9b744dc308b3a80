/- The walk of IeeeEnds. -/
import Derived.Test.YtmfmgofafamemaaDoorDAwake
import Derived.Test.YtmfmgofafamemaaDoorFlEnds
import Derived.Test.YtmfmgofafamemaaDoorFlArgs3
import Derived.Deep.RegionHeld3
import Derived.Test.YtmfmgofafamemaaDoorQuiet
namespace Go.Proofs.YtmfmgofafamemaaDoor
open Fl Go.RowKit
theorem cell_below {w w' : World} (h : DAwake.Cell w) (hb : Below w.heap.size w w') : DAwake.Cell w' := by
  unfold DAwake.Cell at *
  rw [hb.cell (World.block_lt_of_cell? w _ h)]; exact h
theorem fN_any (a : Nat) (w : World) : Calls Tryd.prog 7 #[.int .u64 a] w fun e w' => e = .returned (.float .f64 a) ∧ w = w' := by
  have := f_any (a : Int) w
  rwa [Int.toNat_natCast] at this
set_option maxRecDepth 100000 in
set_option maxHeartbeats 4000000 in
theorem ieeeEnds_more (bs : List Nat) (b off cap : Nat) (w : World) (hpos : 0 < bs.length) (hcap : bs.length ≤ cap) (hc : ∀ i, i < bs.length → w.cell? ⟨b, off + i, none⟩ = some (.int .u64 (bs.getD i 0 : Nat))) (hok : U64Ok bs) (hcell : DAwake.Cell w) :
    Calls Tryd.prog 4 #[.slice (some ⟨b, off, none⟩) bs.length cap] w fun e w' => e = .returned (.bool true) ∧ Below w.heap.size w w' := by
  obtain ⟨g, hgd⟩ : ∃ g : Nat → Nat, ∀ i, bs.getD i 0 = g i := ⟨_, fun _ => rfl⟩
  have hg : ∀ i, g i < 2 ^ 64 := fun i => by rw [← hgd]; exact hok.get i
  have hlen := hok.2
  simp only [hgd] at hc
  have c0 : w.cell? ⟨b, off, none⟩ = some (.int .u64 (g 0 : Nat)) := hc 0 hpos
  obtain ⟨L, hL⟩ : ∃ L, bs.length - 1 = L := ⟨_, rfl⟩
  have cl : w.cell? ⟨b, off + L, none⟩ = some (.int .u64 (g L : Nat)) := hc L (by omega)
  have hb0 : b < w.heap.size := World.block_lt_of_cell? w _ c0
  have HG := Lib.hid hg; have HC := Lib.hid hc; have HCELL := Lib.hid hcell
  clear hg hc hcell hok hgd
  generalize bs.length = len at *
  have p0 : (0 : Int) < (len : Int) := by omega
  have p1 : (len : Int) ≤ 9223372036854775807 := by omega
  have p2 : (len : Int) ≤ (cap : Int) := by omega
  have p3 : (len : Int) - 1 = (L : Int) := by omega
  have HL := Lib.hid hL
  clear hlen hL
  have AW := Lib.hid (DAwake.awake_any)
  go_enter Tryd.func4, Tryd.ntmps4
  go_wp2_with (go_at_call 7; refine (fN_any _ _).mono ?_; rintro e w' ⟨rfl, rfl⟩)
  clear c0 cl
  go_loopw [3, 4, 5, 6, 7] (fun s3 s4 s5 s6 i wr => ∃ (k x y z : Nat) (nb : Bool), k ≤ len ∧ i = .int .i64 k ∧ s3 = .float .f64 x ∧ s4 = .float .f64 y ∧ s5 = .float .f64 z ∧ s6 = .bool nb ∧
      x < 2 ^ 64 ∧ y < 2 ^ 64 ∧ z < 2 ^ 64 ∧ EndR leA g k x ∧ EndR leB g k y ∧ EndR leA (fun j => g (L - j)) k z ∧ (nb = true ↔ ∃ j, j < k ∧ isNan (g j)) ∧ Below w.heap.size w wr) (fun _ _ _ _ i _ => len - (intOf i).toNat)
  case atStart => exact ⟨0, g 0, g 0, g L, false, by omega, rfl, rfl, rfl, rfl, rfl, HG.out _, HG.out _, HG.out _, EndR.start _ _, EndR.start _ _, EndR.start _ (fun j => g (L - j)), by simp, Below.refl _ _⟩
  case round =>
    obtain ⟨k, x, y, z, nb, hk, rfl, rfl, rfl, rfl, rfl, lx, ly, lz, ex, ey, ez, hnb, hb⟩ := hrel
    have EX := Lib.hid ex; have EY := Lib.hid ey; have EZ := Lib.hid ez; have HNB := Lib.hid hnb; have LX := Lib.hid lx; have LY := Lib.hid ly; have LZ := Lib.hid lz
    clear ex ey ez hnb lx ly lz
    by_cases hlt : k < len
    · have hlt' : (k : Int) < (len : Int) := by omega
      have ck : wr.cell? ⟨b, off + k, none⟩ = some (.int .u64 (g k : Nat)) := (hb.cell (p := ⟨b, off + k, none⟩) hb0).trans (HC.out k hlt)
      obtain ⟨M, hM⟩ : ∃ M, L - k = M := ⟨_, rfl⟩
      have hl := HL.out
      have q3 : (L : Int) - (k : Int) = (M : Int) := by omega
      have cr : wr.cell? ⟨b, off + M, none⟩ = some (.int .u64 (g M : Nat)) := (hb.cell (p := ⟨b, off + M, none⟩) hb0).trans (HC.out M (by omega))
      have q4 : (M : Int) < (len : Int) := by omega
      have HM := Lib.hid hM
      clear hl hM
      go_wp2_with (first
        | (go_at_call 7; refine (fN_any _ _).mono ?_; rintro e w' ⟨rfl, rfl⟩)
        | (go_at_call 11; (with_reducible refine (min_any _ _ LX.out (HG.out _) _).mono ?_); rintro e w' ⟨rfl, rfl⟩)
        | (go_at_call 11; (with_reducible refine (min_any _ _ LZ.out (HG.out _) _).mono ?_); rintro e w' ⟨rfl, rfl⟩)
        | (go_at_call 12; (with_reducible refine (max_any _ _ (HG.out _) LY.out _).mono ?_); rintro e w' ⟨rfl, rfl⟩))
      clear cr q3 q4
      have rx := EX.out.min
      have ry := EY.out.max
      have rz := EZ.out.min
      have lx := fmin_lt LX.out (HG.out k)
      have ly := fmax_lt (HG.out k) LY.out
      have lz := fmin_lt LZ.out (HG.out M)
      rw [HM.out] at rz
      have hn1 : isNan (g k) → ∃ j, j < k + 1 ∧ isNan (g j) := fun h => ⟨k, by omega, h⟩
      have hn2 : nb = true → ∃ j, j < k + 1 ∧ isNan (g j) := fun h => by obtain ⟨j, h1, h2⟩ := HNB.out.1 h; exact ⟨j, by omega, h2⟩
      have hn3 : ¬ isNan (g k) → nb = false → ¬ ∃ j, j < k + 1 ∧ isNan (g j) := fun h h2 ⟨j, h3, h4⟩ => by
        by_cases e : j < k
        · rw [HNB.out.2 ⟨j, e, h4⟩] at h2; cases h2
        · obtain rfl : j = k := by omega
          exact h h4
      have RX := Lib.hid rx; have RY := Lib.hid ry; have RZ := Lib.hid rz; have LX' := Lib.hid lx; have LY' := Lib.hid ly; have LZ' := Lib.hid lz; have N1 := Lib.hid hn1; have N2 := Lib.hid hn2; have N3 := Lib.hid hn3
      clear rx ry rz lx ly lz hn1 hn2 hn3 EX EY EZ LX LY LZ HNB
      cases nb
      · by_cases hk2 : isNan (g k)
        · have t := ne_self_true hk2
          have n1 := N1.out hk2
          have N1' := Lib.hid n1
          clear hk2 n1
          go_region_held3 (fun w' => w'.cell? ⟨b, off + k, none⟩ = some (.int .u64 (g k : Nat))) (first | go_keep)
            ((go_at_call 7; (refine (fN_any _ _).mono ?_); rintro e w' ⟨rfl, rfl⟩))
          all_goals
            go_wp2_with fail
            go_roundw
            case rel => exact ⟨k + 1, _, _, _, true, by omega, by go_num, rfl, rfl, rfl, rfl, LX'.out, LY'.out, LZ'.out, RX.out, RY.out, RZ.out, ⟨fun _ => N1'.out, fun _ => rfl⟩, by first | exact hb.drew | exact below_drewN hb _⟩
            case measure => simp [intOf]; omega
        · have t := ne_self_false hk2
          have n1 := N3.out hk2 rfl
          have N1' := Lib.hid n1
          clear hk2 n1
          go_region_held3 (fun w' => w'.cell? ⟨b, off + k, none⟩ = some (.int .u64 (g k : Nat))) (first | go_keep)
            ((go_at_call 7; (refine (fN_any _ _).mono ?_); rintro e w' ⟨rfl, rfl⟩))
          all_goals
            go_wp2_with fail
            go_roundw
            case rel => exact ⟨k + 1, _, _, _, false, by omega, by go_num, rfl, rfl, rfl, rfl, LX'.out, LY'.out, LZ'.out, RX.out, RY.out, RZ.out, ⟨fun h => Bool.noConfusion h, fun h => absurd h N1'.out⟩, by first | exact hb.drew | exact below_drewN hb _⟩
            case measure => simp [intOf]; omega
      · have n1 := N2.out rfl
        have N1' := Lib.hid n1
        clear n1
        go_quiet (fail)
        all_goals
          go_wp2_with fail
          go_roundw
          case rel => exact ⟨k + 1, _, _, _, true, by omega, by go_num, rfl, rfl, rfl, rfl, LX'.out, LY'.out, LZ'.out, RX.out, RY.out, RZ.out, ⟨fun _ => N1'.out, fun _ => rfl⟩, by first | exact hb.drew | exact below_drewN hb _⟩
          case measure => simp [intOf]; omega
    · have hge : ¬ (k : Int) < (len : Int) := by omega
      obtain rfl : k = len := by omega
      have hp : 0 < k := by omega
      cases nb
      · have hnn := (not_congr HNB.out).1 (by simp)
        obtain ⟨nx, ⟨jx, hjx, ejx⟩, hx2⟩ := EX.out.num hp hnn
        obtain ⟨ny, ⟨jy, hjy, ejy⟩, hy2⟩ := EY.out.num hp hnn
        have hzx : z = x := (ends_same (fun j _ => HG.out j) EX.out (by have := EZ.out; rw [← HL.out] at this; exact this) hp hnn).symm
        subst hzx
        have pos : ∀ j, j < k → ¬ isNan (g j) := fun j hj h => hnn ⟨j, hj, h⟩
        have OL := Lib.hid (fun j (hj : j < k) => ord_not_lt (pos j hj) nx (hx2 j hj))
        have OM := Lib.hid (fun j (hj : j < k) => ord_not_gt (pos j hj) ny (hy2 j hj))
        have SL := Lib.hid (fun j (hj : j < k) => sameB_iff (y := z) (pos j hj))
        have SM := Lib.hid (fun j (hj : j < k) => sameB_iff (y := y) (pos j hj))
        have SS := Lib.hid (sameB_true (Same.refl z))
        have FX := Lib.hid (⟨jx, hjx, ejx.symm⟩ : ∃ j, j < k ∧ g j = z)
        have FY := Lib.hid (⟨jy, hjy, ejy.symm⟩ : ∃ j, j < k ∧ g j = y)
        obtain ⟨W1, hW1⟩ : ∃ W1 : World, W1 = wr := ⟨_, rfl⟩
        subst hW1
        clear hnn nx hx2 ny hy2 pos ejx ejy hjx hjy EX EY EZ HNB
        go_wp2_with fail
        have hzl := LX.out
        have hyl := LY.out
        have ZL := Lib.hid hzl; have YL := Lib.hid hyl
        clear hzl hyl LX LY LZ
        go_loopw [8, 9] (fun fo i w2 => ∃ (q : Nat) (F : Int), q ≤ k ∧ i = .int .i64 q ∧ fo = .int .i64 F ∧ 0 ≤ F ∧ F ≤ 3 ∧ ((∃ j, j < q ∧ g j = z) → F % 2 = 1) ∧ ((∃ j, j < q ∧ g j = y) → 2 ≤ F) ∧ Below W1.heap.size W1 w2) (fun _ i _ => k - (intOf i).toNat)
        case atStart => exact ⟨0, 0, by omega, rfl, rfl, by omega, by omega, fun ⟨j, h, _⟩ => absurd h (by omega), fun ⟨j, h, _⟩ => absurd h (by omega), Below.refl _ _⟩
        case round =>
          obtain ⟨q, F, hq, rfl, rfl, f0, f3, h1, h2, hb2⟩ := hrel
          by_cases hlt : q < k
          · have hlt' : (q : Int) < (k : Int) := by omega
            have ck : wr.cell? ⟨b, off + q, none⟩ = some (.int .u64 (g q : Nat)) := (hb2.cell (p := ⟨b, off + q, none⟩) (Nat.lt_of_lt_of_le hb0 hb.size)).trans ((hb.cell (p := ⟨b, off + q, none⟩) hb0).trans (HC.out q hlt))
            obtain ⟨o1, e1, g1⟩ := OL.out q hlt
            obtain ⟨o2, e2, g2⟩ := OM.out q hlt
            obtain ⟨G1, a1, a2, a3, a4, a5⟩ := or_one f0 f3
            obtain ⟨G2, b1, b2, b3, b4⟩ := or_two f0 f3
            obtain ⟨G3, d1, d2, d3, d4⟩ := or_two a2 a3
            have s1 := SL.out q hlt
            have s2 := SM.out q hlt
            have E1 := Lib.hid e1; have E2 := Lib.hid e2
            obtain ⟨t1, e3⟩ : ∃ t, sameB (g q) z = t := ⟨_, rfl⟩
            obtain ⟨t2, e4⟩ : ∃ t, sameB (g q) y = t := ⟨_, rfl⟩
            rw [e3] at s1
            rw [e4] at s2
            have E3 := Lib.hid e3; have E4 := Lib.hid e4
            have R1 : t1 = false → (∃ j, j < q + 1 ∧ g j = z) → ∃ j, j < q ∧ g j = z := fun h ⟨j, h3, h4⟩ => by
              by_cases e : j < q
              · exact ⟨j, e, h4⟩
              · obtain rfl : j = q := by omega
                rw [s1.2 h4] at h; cases h
            have R2 : t2 = false → (∃ j, j < q + 1 ∧ g j = y) → ∃ j, j < q ∧ g j = y := fun h ⟨j, h3, h4⟩ => by
              by_cases e : j < q
              · exact ⟨j, e, h4⟩
              · obtain rfl : j = q := by omega
                rw [s2.2 h4] at h; cases h
            have R1' := Lib.hid R1; have R2' := Lib.hid R2; have H1 := Lib.hid h1; have H2 := Lib.hid h2
            have A4 := Lib.hid a4; have A5 := Lib.hid a5; have B4 := Lib.hid b4; have D4 := Lib.hid d4
            clear s1 s2 e1 e2 e3 e4 R1 R2 h1 h2 a4 a5 b4 d4
            cases t1 <;> cases t2
            · go_wp2_with (first
                | (go_at_call 7; (with_reducible refine (fN_any _ _).mono ?_); rintro e w' ⟨rfl, rfl⟩)
                | (go_at_call 8; (with_reducible refine (order_any _ z (HG.out _) ZL.out _).mono ?_); rintro e w' ⟨rfl, rfl⟩; rw [E1.out])
                | (go_at_call 8; (with_reducible refine (order_any _ y (HG.out _) YL.out _).mono ?_); rintro e w' ⟨rfl, rfl⟩; rw [E2.out])
                | (go_at_call 13; (with_reducible refine (sameF_any _ z _).mono ?_); rintro e w' ⟨rfl, rfl⟩; rw [E3.out])
                | (go_at_call 13; (with_reducible refine (sameF_any _ y _).mono ?_); rintro e w' ⟨rfl, rfl⟩; rw [E4.out]))
              go_roundw
              case rel => exact ⟨q + 1, F, by omega, by go_num, rfl, f0, f3, fun h => H1.out (R1'.out trivial h), fun h => H2.out (R2'.out trivial h), hb2⟩
              case measure => simp [intOf]; omega
            · go_wp2_with (first
                | (go_at_call 7; (with_reducible refine (fN_any _ _).mono ?_); rintro e w' ⟨rfl, rfl⟩)
                | (go_at_call 8; (with_reducible refine (order_any _ z (HG.out _) ZL.out _).mono ?_); rintro e w' ⟨rfl, rfl⟩; rw [E1.out])
                | (go_at_call 8; (with_reducible refine (order_any _ y (HG.out _) YL.out _).mono ?_); rintro e w' ⟨rfl, rfl⟩; rw [E2.out])
                | (go_at_call 13; (with_reducible refine (sameF_any _ z _).mono ?_); rintro e w' ⟨rfl, rfl⟩; rw [E3.out])
                | (go_at_call 13; (with_reducible refine (sameF_any _ y _).mono ?_); rintro e w' ⟨rfl, rfl⟩; rw [E4.out]))
              go_roundw
              case rel => exact ⟨q + 1, G2, by omega, by go_num, rfl, by omega, by omega, fun h => B4.out (H1.out (R1'.out trivial h)), fun _ => b2, hb2⟩
              case measure => simp [intOf]; omega
            · go_wp2_with (first
                | (go_at_call 7; (with_reducible refine (fN_any _ _).mono ?_); rintro e w' ⟨rfl, rfl⟩)
                | (go_at_call 8; (with_reducible refine (order_any _ z (HG.out _) ZL.out _).mono ?_); rintro e w' ⟨rfl, rfl⟩; rw [E1.out])
                | (go_at_call 8; (with_reducible refine (order_any _ y (HG.out _) YL.out _).mono ?_); rintro e w' ⟨rfl, rfl⟩; rw [E2.out])
                | (go_at_call 13; (with_reducible refine (sameF_any _ z _).mono ?_); rintro e w' ⟨rfl, rfl⟩; rw [E3.out])
                | (go_at_call 13; (with_reducible refine (sameF_any _ y _).mono ?_); rintro e w' ⟨rfl, rfl⟩; rw [E4.out]))
              go_roundw
              case rel => exact ⟨q + 1, G1, by omega, by go_num, rfl, by omega, by omega, fun _ => A4.out, fun h => A5.out (H2.out (R2'.out trivial h)), hb2⟩
              case measure => simp [intOf]; omega
            · go_wp2_with (first
                | (go_at_call 7; (with_reducible refine (fN_any _ _).mono ?_); rintro e w' ⟨rfl, rfl⟩)
                | (go_at_call 8; (with_reducible refine (order_any _ z (HG.out _) ZL.out _).mono ?_); rintro e w' ⟨rfl, rfl⟩; rw [E1.out])
                | (go_at_call 8; (with_reducible refine (order_any _ y (HG.out _) YL.out _).mono ?_); rintro e w' ⟨rfl, rfl⟩; rw [E2.out])
                | (go_at_call 13; (with_reducible refine (sameF_any _ z _).mono ?_); rintro e w' ⟨rfl, rfl⟩; rw [E3.out])
                | (go_at_call 13; (with_reducible refine (sameF_any _ y _).mono ?_); rintro e w' ⟨rfl, rfl⟩; rw [E4.out]))
              go_roundw
              case rel => exact ⟨q + 1, G3, by omega, by go_num, rfl, by omega, by omega, fun _ => D4.out A4.out, fun _ => d2, hb2⟩
              case measure => simp [intOf]; omega
          · have hge : ¬ (q : Int) < (k : Int) := by omega
            obtain rfl : q = k := by omega
            have q1 := h1 FX.out
            have q2 := h2 FY.out
            obtain rfl : F = 3 := by omega
            have hbb : Below w.heap.size w wr := hb.trans (hb2.mono hb.size)
            clear h1 h2 q1 q2
            go_wp2_with (go_at_call 13; (with_reducible refine (sameF_any _ _ _).mono ?_); rintro e w' ⟨rfl, rfl⟩; rw [SS.out])
            refine (AW.out _ (cell_below HCELL.out hbb)).mono ?_
            rintro e w2 ⟨rfl, hb2⟩
            go_wp2_with fail
            go_ret
            exact ⟨rfl, hbb.trans (hb2.mono hbb.size)⟩
      · have hnn := HNB.out.1 rfl
        have t1 := ne_self_true (EX.out.nan hp hnn)
        have t2 := ne_self_true (EY.out.nan hp hnn)
        have hnn' : ∃ j, j < k ∧ isNan ((fun j => g (L - j)) j) := by
          obtain ⟨j, h1, h2⟩ := hnn
          have e : L - (L - j) = j := by have := HL.out; omega
          exact ⟨L - j, by have := HL.out; omega, by show isNan (g (L - (L - j))); rw [e]; exact h2⟩
        have t3 := ne_self_true (EZ.out.nan hp hnn')
        clear hnn hnn' hp
        go_wp2_with fail
        refine (AW.out _ (cell_below HCELL.out hb)).mono ?_
        rintro e w2 ⟨rfl, hb2⟩
        go_wp2_with fail
        go_ret
        exact ⟨rfl, hb.trans (hb2.mono hb.size)⟩
set_option maxRecDepth 100000 in
set_option maxHeartbeats 4000000 in
theorem ieeeEnds_walk (bs : List Nat) (v : Value) (w : World) (hv : U64At w v bs ∧ U64Ok bs) (hcell : DAwake.Cell w) :
    Calls Tryd.prog 4 #[v] w fun e w' => e = .returned (.bool true) ∧ Below w.heap.size w w' := by
  obtain ⟨hv, hok⟩ := hv
  have AW := Lib.hid (DAwake.awake_any)
  rcases hv with ⟨rfl, a, cap, rfl⟩ | ⟨b, off, cap, rfl, hpos, hcap, hc⟩
  · go_enter Tryd.func4, Tryd.ntmps4
    go_wp2_with fail
    refine (AW.out _ hcell).mono ?_
    rintro e w2 ⟨rfl, hb⟩
    go_wp2_with fail
    go_ret
    exact ⟨rfl, hb⟩
  · exact ieeeEnds_more bs b off cap w hpos hcap hc hok hcell
end Go.Proofs.YtmfmgofafamemaaDoor
