/- The walk of StartCircles. -/
import Derived.Test.YtmfmgofafamemaaStartAwake
import Derived.Test.YtmfmgofafamemaaStartScalesWalk2
import Derived.Test.YtmfmgofafamemaaFlRing2
import Derived.Test.YtmfmgofafamemaaOwn2
import Derived.Deep.RegionHeld3
import Derived.Test.YtmfmgofafamemaaQuiet
namespace Go.Proofs.Ytmfmgofafamemaa
open Fl Go.RowKit
namespace StartCircles
theorem and62' (x : Int) : 0 ≤ bits .and .i64 x 4611686018427387903 ∧ bits .and .i64 x 4611686018427387903 ≤ 4611686018427387903 := by
  have h : (BitVec.ofInt 64 x &&& BitVec.ofInt 64 4611686018427387903).toNat ≤ 4611686018427387903 := by
    rw [BitVec.toNat_and]
    exact Nat.and_le_right
  show 0 ≤ IntKind.i64.wrap ((BitVec.ofInt 64 x &&& BitVec.ofInt 64 4611686018427387903).toNat : Int) ∧ IntKind.i64.wrap ((BitVec.ofInt 64 x &&& BitVec.ofInt 64 4611686018427387903).toNat : Int) ≤ 4611686018427387903
  rw [IntKind.wrap_i64]
  omega
def fv (x : Nat) : Value := .float .f64 x
theorem infoF : (Try.prog.info? 28).map (fun i => (i.zero, i.size, i.bytes)) = some (some (.float .f64 0), 1, 8) := by kernel_rfl
theorem ldexp_back (x : Nat) (k : Int) (m : Mid x) (h1 : -900 ≤ k) (h2 : k ≤ 900) (W : World) :
    Calls Try.prog 11 #[.float .f64 (ldx x k), .int .i64 (-k)] W fun e w' => e = .returned (.float .f64 x) ∧ ∃ n, w' = W.drewN n := by
  obtain ⟨a1, a2, a3, a4⟩ := m.ld (k := k) (by omega) (by omega)
  obtain ⟨_, b2, b3, b4⟩ := ldx_facts a3 a4
  have lo := m.lo
  have hi := m.hi
  have := ldexp_any (ldx x k) (-k) b4 (by omega) b3 (by omega) (by omega) W
  rwa [ldx_back m.lt a3 a4] at this
/-- the first j of a row of floats -/
def row (f : Nat → Nat) (j : Nat) : List Value := (List.range j).map fun i => fv (f i)
theorem row_succ (f : Nat → Nat) (j : Nat) : row f (j + 1) = row f j ++ [fv (f j)] := by
  unfold row; rw [List.range_succ, List.map_append]; rfl
theorem row_cell {w : World} {base : Nat} {g n cap : Nat} {f : Nat → Nat} (h : w.ownsRow base 28 1 (.slice (some ⟨g, 0, none⟩) n cap) n (row f n)) (i : Nat) (hi : i < n) : w.cell? ⟨g, i, none⟩ = some (.float .f64 (f i)) := by
  rw [h.cellAt i (by omega)]
  simp [row, hi, fv]
theorem row_open {w : World} {base : Nat} {v : Value} {n : Nat} {f : Nat → Nat} (h : w.ownsRow base 28 1 v n (row f n)) (h0 : 0 < n) :
    ∃ g cap, v = .slice (some ⟨g, 0, none⟩) n cap ∧ base ≤ g ∧ g < w.heap.size ∧ n ≤ cap ∧ ∀ i, i < n → w.cell? ⟨g, i, none⟩ = some (.float .f64 (f i)) := by
  have hh := h
  rcases h.2 with ⟨_, h⟩ | ⟨g, cap, cur, rfl, hb, hg, hc, _⟩
  · omega
  · exact ⟨g, cap, rfl, hb, (Array.getElem?_eq_some_iff.1 hg).1, hc, fun i hi => row_cell hh i hi⟩
set_option maxRecDepth 100000 in
set_option maxHeartbeats 4000000 in
theorem walk (c0 k0 : Int) (w : World) :
    Calls Try.prog 3 #[.int .i64 c0, .int .i64 k0] w fun e w' => e = .returned (.bool true) ∧ Below w.heap.size w w' := by
  obtain ⟨i0, hi0, hz0, hz1, hz2⟩ := info_parts infoF
  obtain ⟨T, hT, hT0, hT1⟩ : ∃ T : Int, bits .and .i64 c0 4611686018427387903 = T ∧ 0 ≤ T ∧ T ≤ 4611686018427387903 := ⟨_, rfl, and62' c0⟩
  obtain ⟨T2, hT2, hT20, hT21⟩ : ∃ T : Int, bits .and .i64 k0 4611686018427387903 = T ∧ 0 ≤ T ∧ T ≤ 4611686018427387903 := ⟨_, rfl, and62' k0⟩
  obtain ⟨c, hc, h1, h2⟩ : ∃ c : Nat, 1 + T % 64 = (c : Int) ∧ 1 ≤ c ∧ c ≤ 64 := ⟨(1 + T % 64).toNat, by omega, by omega, by omega⟩
  obtain ⟨k, hk, h3, h4⟩ : ∃ k : Int, T2 % 1801 - 900 = k ∧ -900 ≤ k ∧ k ≤ 900 := ⟨_, rfl, by omega, by omega⟩
  have P0 := Lib.hid (fun W => points_ok c k W h1 h2 (by omega) (by omega))
  have LX := Lib.hid (fun j W => ldexp_back (wX c j) k (mid_w (j := j) h1 h2).1 h3 h4 W)
  have LY := Lib.hid (fun j W => ldexp_back (wY c j) k (mid_w (j := j) h1 h2).2 h3 h4 W)
  have OC := Lib.hid (fun i hi => on_circle (i := i) h1 h2 hi)
  have XC := Lib.hid (fun i h hi => cross_circle (i := i) h1 h2 h hi)
  have FC := Lib.hid (fun i m hm hi => far_circle (i := i) (m := m) h1 h2 hm hi)
  have c1 : (1 : Int) ≤ (c : Int) := by omega
  have c2 : (c : Int) ≤ 64 := by omega
  go_enter Try.func3, Try.ntmps3
  go_wp2_with fail
  refine (P0.out _).mono ?_
  rintro e w1 ⟨g, rfl, ho, hb⟩
  have hg : g < w1.heap.size := (ho.lt g rfl).2
  have HA := Lib.hid (fun j h => StartScales.pts_cell ho j h)
  have HB := Lib.hid hb
  clear ho hb hT hT2 hk hc hT0 hT1 hT20 hT21
  go_wp2_with (go_at_call 10; refine (num_any _ _).mono ?_; rintro e w' ⟨rfl, rfl⟩)
  go_loopw [7, 8, 9] (fun xs ys i wr => ∃ j : Nat, j ≤ c ∧ i = .int .i64 j ∧ wr.ownsRow w1.heap.size 28 1 xs j (row (wX c) j) ∧ wr.ownsRow w1.heap.size 28 1 ys j (row (wY c) j) ∧ Apt xs ys ∧ Below w1.heap.size w1 wr) (fun _ _ i _ => c - (intOf i).toNat)
  case atStart => exact ⟨0, by omega, rfl, own_nil _ _ _ _, own_nil _ _ _ _, Apt.nil _, Below.refl _ _⟩
  case round =>
    obtain ⟨j, hj, rfl, ox, oy, ap, hb⟩ := hrel
    have OX := Lib.hid ox; have OY := Lib.hid oy; have AP := Lib.hid ap
    clear ox oy ap
    by_cases hlt : j < c
    · have hlt' : (j : Int) < (c : Int) := by omega
      have ca : wr.cell? ⟨g, j, none⟩ = some (.complex .f64 (ldx (wX c j) k) (ldx (wY c j) k)) := (hb.cell (p := ⟨g, j, none⟩) hg).trans (HA.out j hlt)
      obtain ⟨⟨p, q, s, e0, f1, f2, f3, f4, l4, o4⟩, z1, z2⟩ := OC.out j hlt
      have AE := Lib.hid (abs_any e0 l4)
      clear l4
      go_wp2_with fail
      refine (LX.out j _).mono ?_
      rintro e w2 ⟨rfl, n1, rfl⟩
      go_wp2_with fail
      refine (LY.out j _).mono ?_
      rintro e w2 ⟨rfl, n2, rfl⟩
      generalize hX : wX c j = X at *
      generalize hY : wY c j = Y at *
      have HX := Lib.hid hX; have HY := Lib.hid hY
      clear hX hY
      go_wp2_with fail
      refine (AE.out _).mono ?_
      rintro e w2 ⟨rfl, rfl⟩
      go_wp2_with (at_builtin; refine wpList_append_own2 _ rfl _ _ 27 rfl w1.heap.size 28 i0 (.float .f64 0) 1 8 Try.underlying27 hi0 hz0 hz1 hz2 rfl (by decide) _ j _ rfl (OX.out.alloc _) ⟨_, 0, none⟩ 1 1 [fv X] rfl rfl (World.news_of_block (cs := #[fv X]) (t := 28) (fr := (0, 0)) (heap_alloc_new _ _)) (by simp [fv, Value.oneCell']) (by unfold maxLen; omega) (by omega) (by simp; have := hb.size; omega) ?_)
      intro xs' w3 ox' gr1 mv1
      have oy3 : w3.ownsRow w1.heap.size 28 1 u8 j (row (wY c) j) := by
        refine World.ownsRow.kept ?_ gr1 AP.out.symm.kept
        exact World.ownsRow.alloc (show (wr.drewN _).ownsRow _ _ _ _ _ _ from OY.out) _
      have ap3 := mv1.apt (u := u8) (fun g hg => by have := (OY.out.lt g hg).2; simp; omega) AP.out.symm
      have hb3 : Below w1.heap.size w1 w3 := Below.grown ((below_drewN hb _).alloc (by simp; have := hb.size; omega) _) gr1 (by simp; have := hb.size; omega) (own_ge OX.out)
      have OX3 := Lib.hid ox'; have OY3 := Lib.hid oy3; have AP3 := Lib.hid ap3; have HB3 := Lib.hid hb3
      clear ox' oy3 ap3 hb3 gr1 mv1
      go_wp2_with (at_builtin; refine wpList_append_own2 _ rfl _ _ 27 rfl w1.heap.size 28 i0 (.float .f64 0) 1 8 Try.underlying27 hi0 hz0 hz1 hz2 rfl (by decide) _ j _ rfl (OY3.out.alloc _) ⟨_, 0, none⟩ 1 1 [fv Y] rfl rfl (World.news_of_block (cs := #[fv Y]) (t := 28) (fr := (0, 0)) (heap_alloc_new _ _)) (by simp [fv, Value.oneCell']) (by unfold maxLen; omega) (by omega) (by simp; have := HB3.out.size; omega) ?_)
      intro ys' w4 oy' gr2 mv2
      have ox4 : w4.ownsRow w1.heap.size 28 1 xs' (j + 1) (row (wX c) j ++ [fv X]) := by
        refine World.ownsRow.kept ?_ gr2 AP3.out.symm.kept
        exact World.ownsRow.alloc OX3.out _
      have ap4 := mv2.apt (u := xs') (fun g hg => by have := (OX3.out.lt g hg).2; simp; omega) AP3.out.symm
      have hb4 : Below w1.heap.size w1 w4 := Below.grown (HB3.out.alloc (by have := HB3.out.size; omega) _) gr2 (by simp; have := HB3.out.size; omega) (own_ge OY3.out)
      rw [← HX.out, ← row_succ] at ox4
      rw [← HY.out, ← row_succ] at oy'
      have OX4 := Lib.hid ox4; have OY4 := Lib.hid oy'; have AP4 := Lib.hid ap4; have HB4 := Lib.hid hb4
      clear ox4 oy' ap4 hb4 gr2 mv2
      go_wp2
      go_roundw
      case rel => exact ⟨j + 1, by omega, by go_num, OX4.out, OY4.out, AP4.out, HB4.out⟩
      case measure => simp [intOf]; omega
    · have hge : ¬ (j : Int) < (c : Int) := by omega
      obtain rfl : j = c := by omega
      obtain ⟨gx, capx, rfl, bx, lx, kx, fx⟩ := row_open OX.out (by omega)
      obtain ⟨gy, capy, rfl, by', ly, ky, fy⟩ := row_open OY.out (by omega)
      have FX := Lib.hid fx; have FY := Lib.hid fy
      have HBB := Lib.hid (HB.out.trans (hb.mono HB.out.size))
      have kx' : (j : Int) ≤ (capx : Int) := by omega
      have ky' : (j : Int) ≤ (capy : Int) := by omega
      obtain ⟨W1, hW1⟩ : ∃ W1 : World, W1 = wr := ⟨_, rfl⟩
      subst hW1
      clear fx fy bx by' kx ky OX OY AP OC P0 LX LY HA hb hg hj
      go_wp2_with fail
      go_loopw [13] (fun si w2 => ∃ q : Nat, q ≤ j ∧ si = .int .i64 q ∧ Below W1.heap.size W1 w2) (fun si _ => j - (intOf si).toNat)
      case atStart => exact ⟨0, by omega, rfl, Below.refl _ _⟩
      case round =>
        obtain ⟨q, hq, rfl, hb2⟩ := hrel
        obtain ⟨W2, hW2⟩ : ∃ W2 : World, W2 = wr := ⟨_, rfl⟩
        subst hW2
        by_cases hlt : q < j
        · have hlt' : (q : Int) < (j : Int) := by omega
          obtain ⟨p, hp⟩ : ∃ p : Nat, (q + 1) % j = p := ⟨_, rfl⟩
          have hpj : p < j := by rw [← hp]; exact Nat.mod_lt _ (by omega)
          have hpm : ((q : Int) + 1) % (j : Int) = (p : Int) := by rw [← hp, Int.natCast_emod, Int.natCast_add]; rfl
          have hpj' : (p : Int) < (j : Int) := by omega
          have CX := Lib.hid (fun i hi => (hb2.cell (p := ⟨gx, i, none⟩) lx).trans (FX.out i hi))
          have CY := Lib.hid (fun i hi => (hb2.cell (p := ⟨gy, i, none⟩) ly).trans (FY.out i hi))
          have lx2 : gx < W2.heap.size := Nat.lt_of_lt_of_le lx hb2.size
          have ly2 : gy < W2.heap.size := Nat.lt_of_lt_of_le ly hb2.size
          have g1 := CX.out q hlt
          have g2 := CY.out q hlt
          have g3 := CX.out p hpj
          have g4 := CY.out p hpj
          have HB2 := Lib.hid hb2
          have HP := Lib.hid hp
          clear hp hb2
          by_cases h2c : 2 < j
          · have h2c' : (2 : Int) < (j : Int) := by omega
            have xc := XC.out q h2c hlt
            rw [HP.out] at xc
            obtain ⟨u, v, d, f1, f2, f3, o1, o2⟩ := xc
            go_wp2_with fail
            go_quiet (fail)
            go_wp2_with fail
            clear f1 f2 f3 o1 o2 g1 g2 g3 g4
            go_loopw [15] (fun sm w3 => ∃ r : Nat, r ≤ q ∧ sm = .int .i64 r ∧ Below W2.heap.size W2 w3) (fun sm _ => q - (intOf sm).toNat)
            case atStart => exact ⟨0, by omega, rfl, by first | exact below_drewN (Below.refl _ _) _ | exact Below.refl _ _⟩
            case round =>
              obtain ⟨r, hr, rfl, hb3⟩ := hrel
              by_cases hrl : r < q
              · have hrl' : (r : Int) < (q : Int) := by omega
                have hrj' : (r : Int) < (j : Int) := by omega
                have hqj' : (q : Int) < (j : Int) := by omega
                have g1 : wr.cell? ⟨gx, q, none⟩ = some (.float .f64 (wX j q)) := (hb3.cell (p := ⟨gx, q, none⟩) lx2).trans (CX.out q hlt)
                have g2 : wr.cell? ⟨gy, q, none⟩ = some (.float .f64 (wY j q)) := (hb3.cell (p := ⟨gy, q, none⟩) ly2).trans (CY.out q hlt)
                have g3 : wr.cell? ⟨gx, r, none⟩ = some (.float .f64 (wX j r)) := (hb3.cell (p := ⟨gx, r, none⟩) lx2).trans (CX.out r (by omega))
                have g4 : wr.cell? ⟨gy, r, none⟩ = some (.float .f64 (wY j r)) := (hb3.cell (p := ⟨gy, r, none⟩) ly2).trans (CY.out r (by omega))
                have fc := FC.out q r hrl hlt
                generalize wX j q = X at *
                generalize wY j q = Y at *
                generalize wX j r = X' at *
                generalize wY j r = Y' at *
                rcases fc with ⟨d, f1, l1, o1⟩ | ⟨d, e, f, f1, f2, f3, l1, l2, l3, o2, o3⟩
                · have AD := Lib.hid (abs_any d l1)
                  clear l1
                  go_wp2_with fail
                  go_quiet ((go_at_call 12; first | (with_reducible exact quiet_left (AD.out _)) | (with_reducible exact quiet_add_left (AD.out _))))
                  go_wp2_with fail
                  go_roundw
                  case rel => exact ⟨r + 1, by omega, by go_num, by first | exact hb3.drew | exact below_drewN hb3 _⟩
                  case measure => simp [intOf]; omega
                · obtain ⟨t, o1⟩ : ∃ t, (FloatKind.f64.format.order (rg d) 4517110426252607488 == some Ordering.lt) = t := ⟨_, rfl⟩
                  have AD := Lib.hid (abs_any d l1)
                  have AE := Lib.hid (abs_any e l2)
                  have AF := Lib.hid (abs_any f l3)
                  clear l1 l2 l3
                  cases t
                  · go_wp2_with fail
                    go_quiet ((go_at_call 12; first | (with_reducible exact quiet_left (AD.out _)) | (with_reducible exact quiet_add_left (AD.out _))))
                    go_wp2_with fail
                    go_roundw
                    case rel => exact ⟨r + 1, by omega, by go_num, by first | exact hb3.drew | exact below_drewN hb3 _⟩
                    case measure => simp [intOf]; omega
                  · go_wp2_with fail
                    go_quiet ((go_at_call 12; first | (with_reducible exact quiet_left (AD.out _)) | (with_reducible exact quiet_add_left (AD.out _)) | (with_reducible exact quiet_left (AE.out _)) | (with_reducible exact quiet_add_left (AE.out _)) | (with_reducible exact quiet_left (AF.out _)) | (with_reducible exact quiet_add_left (AF.out _))))
                    go_wp2_with fail
                    go_roundw
                    case rel => exact ⟨r + 1, by omega, by go_num, by first | exact hb3.drew | exact below_drewN hb3 _⟩
                    case measure => simp [intOf]; omega
              · have hge : ¬ (r : Int) < (q : Int) := by omega
                go_wp2_with fail
                go_roundw
                case rel => exact ⟨q + 1, by omega, by go_num, HB2.out.trans (hb3.mono HB2.out.size)⟩
                case measure => simp [intOf]; omega
          · have h2c' : ¬ (2 : Int) < (j : Int) := by omega
            have hdd : decide ((2 : Int) < (j : Int)) = false := decide_eq_false h2c'
            clear g1 g2 g3 g4
            go_wp2_with fail
            go_quiet (fail)
            go_wp2_with fail
            clear hdd
            go_loopw [15] (fun sm w3 => ∃ r : Nat, r ≤ q ∧ sm = .int .i64 r ∧ Below W2.heap.size W2 w3) (fun sm _ => q - (intOf sm).toNat)
            case atStart => exact ⟨0, by omega, rfl, by first | exact below_drewN (Below.refl _ _) _ | exact Below.refl _ _⟩
            case round =>
              obtain ⟨r, hr, rfl, hb3⟩ := hrel
              by_cases hrl : r < q
              · have hrl' : (r : Int) < (q : Int) := by omega
                have hrj' : (r : Int) < (j : Int) := by omega
                have hqj' : (q : Int) < (j : Int) := by omega
                have g1 : wr.cell? ⟨gx, q, none⟩ = some (.float .f64 (wX j q)) := (hb3.cell (p := ⟨gx, q, none⟩) lx2).trans (CX.out q hlt)
                have g2 : wr.cell? ⟨gy, q, none⟩ = some (.float .f64 (wY j q)) := (hb3.cell (p := ⟨gy, q, none⟩) ly2).trans (CY.out q hlt)
                have g3 : wr.cell? ⟨gx, r, none⟩ = some (.float .f64 (wX j r)) := (hb3.cell (p := ⟨gx, r, none⟩) lx2).trans (CX.out r (by omega))
                have g4 : wr.cell? ⟨gy, r, none⟩ = some (.float .f64 (wY j r)) := (hb3.cell (p := ⟨gy, r, none⟩) ly2).trans (CY.out r (by omega))
                have fc := FC.out q r hrl hlt
                generalize wX j q = X at *
                generalize wY j q = Y at *
                generalize wX j r = X' at *
                generalize wY j r = Y' at *
                rcases fc with ⟨d, f1, l1, o1⟩ | ⟨d, e, f, f1, f2, f3, l1, l2, l3, o2, o3⟩
                · have AD := Lib.hid (abs_any d l1)
                  clear l1
                  go_wp2_with fail
                  go_quiet ((go_at_call 12; first | (with_reducible exact quiet_left (AD.out _)) | (with_reducible exact quiet_add_left (AD.out _))))
                  go_wp2_with fail
                  go_roundw
                  case rel => exact ⟨r + 1, by omega, by go_num, by first | exact hb3.drew | exact below_drewN hb3 _⟩
                  case measure => simp [intOf]; omega
                · obtain ⟨t, o1⟩ : ∃ t, (FloatKind.f64.format.order (rg d) 4517110426252607488 == some Ordering.lt) = t := ⟨_, rfl⟩
                  have AD := Lib.hid (abs_any d l1)
                  have AE := Lib.hid (abs_any e l2)
                  have AF := Lib.hid (abs_any f l3)
                  clear l1 l2 l3
                  cases t
                  · go_wp2_with fail
                    go_quiet ((go_at_call 12; first | (with_reducible exact quiet_left (AD.out _)) | (with_reducible exact quiet_add_left (AD.out _))))
                    go_wp2_with fail
                    go_roundw
                    case rel => exact ⟨r + 1, by omega, by go_num, by first | exact hb3.drew | exact below_drewN hb3 _⟩
                    case measure => simp [intOf]; omega
                  · go_wp2_with fail
                    go_quiet ((go_at_call 12; first | (with_reducible exact quiet_left (AD.out _)) | (with_reducible exact quiet_add_left (AD.out _)) | (with_reducible exact quiet_left (AE.out _)) | (with_reducible exact quiet_add_left (AE.out _)) | (with_reducible exact quiet_left (AF.out _)) | (with_reducible exact quiet_add_left (AF.out _))))
                    go_wp2_with fail
                    go_roundw
                    case rel => exact ⟨r + 1, by omega, by go_num, by first | exact hb3.drew | exact below_drewN hb3 _⟩
                    case measure => simp [intOf]; omega
              · have hge : ¬ (r : Int) < (q : Int) := by omega
                go_wp2_with fail
                go_roundw
                case rel => exact ⟨q + 1, by omega, by go_num, HB2.out.trans (hb3.mono HB2.out.size)⟩
                case measure => simp [intOf]; omega
        · have hge : ¬ (q : Int) < (j : Int) := by omega
          go_wp2_with fail
          refine (awake17_any _).mono ?_
          rintro e w3 ⟨rfl, hb3⟩
          go_wp2_with fail
          go_ret
          exact ⟨rfl, HBB.out.trans ((hb2.trans (hb3.mono hb2.size)).mono HBB.out.size)⟩
end StartCircles
end Go.Proofs.Ytmfmgofafamemaa
