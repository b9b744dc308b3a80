/- The walk of StartScales, where all may be: the loop over the points. -/
import Derived.Test.YtmfmgofafamemaaStartScalesWalk
import Derived.Test.YtmfmgofafamemaaQuiet
namespace Go.Proofs.Ytmfmgofafamemaa
open Fl Go.RowKit
namespace StartScales
theorem pts_cell {c g : Nat} {k : Int} {w : World} {base : Nat} (ho : w.ownsRow base 30 1 (.slice (some ⟨g, 0, none⟩) c c) c ((pts c k).map cv)) (j : Nat) (h : j < c) :
    w.cell? ⟨g, j, none⟩ = some (.complex .f64 (ldx (wX c j) k) (ldx (wY c j) k)) := by
  rw [ho.cellAt j (by omega), pts_cv]
  simp [h, cv, ptK]
theorem sameC_refl (a b : Nat) (w : World) :
    Calls Try.prog 14 #[.complex .f64 a b, .complex .f64 a b] w fun e w' => e = .returned (.bool true) ∧ w = w' := by
  have := sameC_any a b a b w
  rwa [sameCB_true (Same.refl a) (Same.refl b)] at this
set_option maxRecDepth 100000 in
set_option maxHeartbeats 2000000 in
theorem main (c : Nat) (k : Int) (w : World) (h1 : 1 ≤ c) (h2 : c ≤ 64) (h3 : -1000 ≤ k) (h4 : k ≤ 1000) :
    Calls Try.prog 4 #[.int .i64 c, .int .i64 k] w fun e w' => e = .returned (.bool true) ∧ Below w.heap.size w w' := by
  have P0 := Lib.hid (fun W => points_ok c 0 W h1 h2 (by omega) (by omega))
  have P1 := Lib.hid (fun W => points_ok c k W h1 h2 h3 h4)
  have c1 : (1 : Int) ≤ (c : Int) := by omega
  have c2 : (c : Int) ≤ 64 := by omega
  go_enter Try.func4, Try.ntmps4
  go_wp2_with fail
  refine (P0.out _).mono ?_
  rintro e w1 ⟨g, rfl, ho, hb⟩
  have HB := Lib.hid hb
  have HO := Lib.hid ho
  clear ho hb
  go_wp2_with fail
  refine (P1.out _).mono ?_
  rintro e w2 ⟨g2, rfl, ho2, hb2⟩
  have hg : g < w1.heap.size := (HO.out.lt g rfl).2
  have HZ := Lib.hid (fun j h => (hb2.cell (p := ⟨g, j, none⟩) hg).trans (pts_cell HO.out j h))
  have HA := Lib.hid (fun j h => pts_cell ho2 j h)
  have HB2 := Lib.hid (HB.out.trans (hb2.mono HB.out.size))
  have hg3 : g2 < w2.heap.size := (ho2.lt g2 rfl).2
  have hg2 : g < w2.heap.size := Nat.lt_of_lt_of_le hg hb2.size
  clear ho2 hb2 hg
  go_wp2_with (go_at_call 10; refine (num_any _ _).mono ?_; rintro e w' ⟨rfl, rfl⟩)
  go_loopw [11] (fun i wr => ∃ j : Nat, j ≤ c ∧ i = .int .i64 j ∧ Below w2.heap.size w2 wr) (fun i _ => c - (intOf i).toNat)
  case atStart => exact ⟨0, by omega, rfl, Below.refl _ _⟩
  case round =>
    obtain ⟨j, hj, rfl, hbr⟩ := hrel
    by_cases hlt : j < c
    · have hlt' : (j : Int) < (c : Int) := by omega
      obtain ⟨mx, my⟩ := mid_w (c := c) (j := j) h1 h2
      obtain ⟨x1, x2, x3, x4⟩ := mx.ld h3 h4
      obtain ⟨y1, y2, y3, y4⟩ := my.ld h3 h4
      have LX := Lib.hid (fun W => ldexp_any (wX c j) k mx.lt x1 x2 x3 x4 W)
      have LY := Lib.hid (fun W => ldexp_any (wY c j) k my.lt y1 y2 y3 y4 W)
      have cz : wr.cell? ⟨g, j, none⟩ = some (.complex .f64 (wX c j) (wY c j)) := by
        have := (hbr.cell (p := ⟨g, j, none⟩) hg2).trans (HZ.out j hlt)
        rw [ldx_zero mx.lt, ldx_zero my.lt] at this
        exact this
      have ca : wr.cell? ⟨g2, j, none⟩ = some (.complex .f64 (ldx (wX c j) k) (ldx (wY c j) k)) := (hbr.cell (p := ⟨g2, j, none⟩) hg3).trans (HA.out j hlt)
      have ly : ldx (wY c j) k < 2 ^ 64 := (ldx_facts y3 y4).2.2.2
      have un := unary_neg _ ly
      have hq : c % 4 = 0 → j + c / 4 < c → wr.cell? ⟨g2, j + c / 4, none⟩ = some (.complex .f64 (neg (ldx (wY c j) k)) (ldx (wX c j) k)) := fun q1 q2 => by
        obtain ⟨e1, e2⟩ := quarter h1 h2 q1 q2
        have := (hbr.cell (p := ⟨g2, j + c / 4, none⟩) hg3).trans (HA.out (j + c / 4) q2)
        rw [e1, e2, ldx_neg k my.lt y3 y4] at this
        exact this
      have HQ := Lib.hid hq
      clear x1 x2 x3 x4 y1 y2 y3 y4 mx my ly hq
      generalize ldx (wX c j) k = X' at *
      generalize ldx (wY c j) k = Y' at *
      generalize wX c j = X at *
      generalize wY c j = Y at *
      have UN := Lib.hid un
      clear un
      go_wp2_with fail
      go_quiet ((first
          | (go_at_call 11; first | (with_reducible exact Calls.quiet_of (LX.out _)) | (with_reducible exact quiet_add (LX.out _)) | (with_reducible exact Calls.quiet_of (LY.out _)) | (with_reducible exact quiet_add (LY.out _)))
          | (go_at_call 14; first | (with_reducible exact quiet_left (sameC_refl _ _ _)) | (with_reducible exact quiet_add_left (sameC_refl _ _ _)))))
      go_wp2_with fail
      by_cases r0 : c % 4 = 0
      · have r1 : (c : Int) % 4 = 0 := by omega
        by_cases r2 : j + c / 4 < c
        · have cq := HQ.out r0 r2
          have r3 : (j : Int) + (c : Int) / 4 < (c : Int) := by omega
          have un := UN.out
          clear r0 r2
          go_quiet ((first
          | (go_at_call 11; first | (with_reducible exact Calls.quiet_of (LX.out _)) | (with_reducible exact quiet_add (LX.out _)) | (with_reducible exact Calls.quiet_of (LY.out _)) | (with_reducible exact quiet_add (LY.out _)))
          | (go_at_call 14; first | (with_reducible exact quiet_left (sameC_refl _ _ _)) | (with_reducible exact quiet_add_left (sameC_refl _ _ _)))))
          all_goals
            go_wp2_with fail
            go_roundw
            case rel => exact ⟨j + 1, by omega, by go_num, by first | exact hbr.drew | exact below_drewN hbr _⟩
            case measure => simp [intOf]; omega
        · have r3 : ¬ (j : Int) + (c : Int) / 4 < (c : Int) := by omega
          clear r0 r2
          go_quiet (fail)
          all_goals
            go_wp2_with fail
            go_roundw
            case rel => exact ⟨j + 1, by omega, by go_num, by first | exact hbr.drew | exact below_drewN hbr _⟩
            case measure => simp [intOf]; omega
      · have r1 : ((c : Int) % 4 == 0) = false := by rw [beq_eq_false_iff_ne]; omega
        clear r0
        go_quiet (fail)
        all_goals
            go_wp2_with fail
            go_roundw
            case rel => exact ⟨j + 1, by omega, by go_num, by first | exact hbr.drew | exact below_drewN hbr _⟩
            case measure => simp [intOf]; omega
    · have hge : ¬ (j : Int) < (c : Int) := by omega
      go_wp2_with fail
      refine (awake17_any _).mono ?_
      rintro e w3 ⟨rfl, hb3⟩
      go_wp2_with fail
      go_ret
      exact ⟨rfl, HB2.out.trans ((hbr.trans (hb3.mono hbr.size)).mono HB2.out.size)⟩
end StartScales
end Go.Proofs.Ytmfmgofafamemaa
