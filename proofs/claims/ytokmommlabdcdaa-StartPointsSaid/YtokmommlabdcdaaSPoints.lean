/- Contract of start.Points: a new list of the points, or the error. surdlaw17.awake answers true. -/
import Derived.Test.YtokmommlabdcdaaSStart
import Derived.Test.YtokmommlabdcdaaSCs
import Derived.Laws.OwnMore
import Derived.Test.YtokmommlabdcdaaSCpx
set_option linter.unusedVariables false
set_option linter.unusedSimpArgs false
namespace Go.Proofs.Ytokmommlabdcdaa
open Fl Go.RowKit
def PtsRet (c : Nat) (k : Int) (w : World) (e : Ending) (w' : World) : Prop :=
  ∃ g, e = .returned (.tuple #[.slice (some ⟨g, 0, none⟩) c c, .int .i64 0]) ∧ w'.ownsRow w.heap.size 38 1 (.slice (some ⟨g, 0, none⟩) c c) c ((pts c k).map cv) ∧ Below w.heap.size w w'
def PtsBad (code : Int) (w : World) (e : Ending) (w' : World) : Prop := e = .returned (.tuple #[.slice none 0 0, .int .i64 code]) ∧ w = w'
theorem points_many (c k : Int) (w : World) (h : c < 1 ∨ 64 < c) :
    Calls Try.prog 7 #[.int .i64 c, .int .i64 k] w (PtsBad 170 w) := by
  rcases h with h | h
  · go_enter Try.func7, Try.ntmps7
    go_wp2
    go_ret2
    exact ⟨rfl, rfl⟩
  · have h' : ¬ c < 1 := by omega
    go_enter Try.func7, Try.ntmps7
    go_wp2
    go_ret2
    exact ⟨rfl, rfl⟩
theorem points_scale (c k : Int) (w : World) (h1 : 1 ≤ c) (h2 : c ≤ 64) (h : k < -1000 ∨ 1000 < k) :
    Calls Try.prog 7 #[.int .i64 c, .int .i64 k] w (PtsBad 171 w) := by
  rcases h with h | h
  · go_enter Try.func7, Try.ntmps7
    go_wp2
    go_ret2
    exact ⟨rfl, rfl⟩
  · have h' : ¬ k < -1000 := by omega
    go_enter Try.func7, Try.ntmps7
    go_wp2
    go_ret2
    exact ⟨rfl, rfl⟩
set_option maxRecDepth 100000 in
set_option maxHeartbeats 1000000 in
theorem points_ok (c : Nat) (k : Int) (w : World) (h1 : 1 ≤ c) (h2 : c ≤ 64) (h3 : -1000 ≤ k) (h4 : k ≤ 1000) :
    Calls Try.prog 7 #[.int .i64 c, .int .i64 k] w (PtsRet c k w) := by
  obtain ⟨i0, hi0, hz0, hz1, hz2⟩ := info_parts infoC
  have c1 : (1 : Int) ≤ (c : Int) := by omega
  have c2 : (c : Int) ≤ 64 := by omega
  go_enter Try.func7, Try.ntmps7
  go_wp2_with (refine wpList_make_full _ rfl _ _ _ rfl w.heap.size 38 i0 (.complex .f64 0 0) 1 Try.underlying23 hi0 hz0 hz1 .i64 .i64 _ _ c rfl rfl rfl rfl (by rw [hz2]; omega) (by unfold maxLen; omega) (Nat.le_refl _) ?_)
  intro w1 hown hgrow
  have hB : Below w.heap.size w w1 := (Below.refl _ _).grown hgrow (Nat.le_refl _) (fun k hk => by cases hk)
  rw [show (madeCells #[Value.complex FloatKind.f64 0 0] c).toList = fillL c 0 (.complex .f64 0 0) (fun j => cv (ptK c k j)) by rw [fill_zero]; exact toList_madeCells_one _ _] at hown
  generalize hG : w.heap.size = G at *
  clear hgrow
  go_wp2
  go_outline
  go_loopw [26] (fun i wr => ∃ j : Nat, j ≤ c ∧ i = .int .i64 j ∧ wr.ownsRow G 38 1 (.slice (some ⟨G, 0, none⟩) c c) c (fillL c j (.complex .f64 0 0) (fun j => cv (ptK c k j))) ∧ Below G w wr) (fun i _ => c - (intOf i).toNat)
  case atStart => exact ⟨0, by omega, rfl, hown, hB⟩
  case round =>
    obtain ⟨j, hj, rfl, ho, hb⟩ := hrel
    by_cases hlt : j < c
    · have hlt' : (j : Int) < (c : Int) := by omega
      obtain ⟨mx, my⟩ := mid_w (c := c) (j := j) h1 h2
      obtain ⟨x1, x2, x3, x4⟩ := mx.ld h3 h4
      obtain ⟨y1, y2, y3, y4⟩ := my.ld h3 h4
      have LX := Lib.hid (fun W => ldexp_any (wX c j) k mx.lt x1 x2 x3 x4 W)
      have LY := Lib.hid (fun W => ldexp_any (wY c j) k my.lt y1 y2 y3 y4 W)
      clear x1 x2 x3 x4 y1 y2 y3 y4 mx my
      have HO := Lib.hid ho
      clear ho
      go_wp2_with fail
      refine (point_any j c _ h1 h2 hlt).mono ?_
      rintro e w2 ⟨rfl, n, rfl⟩
      go_wp2_with fail
      refine (LX.out _).mono ?_
      rintro e w2 ⟨rfl, n2, rfl⟩
      go_wp2_with fail
      refine (LY.out _).mono ?_
      rintro e w2 ⟨rfl, n3, rfl⟩
      have hs1 : ∀ N, ((wr.drewN N).setCell ⟨G, j, none⟩ (cv (ptK c k j))).ownsRow G 38 1 (.slice (some ⟨G, 0, none⟩) c c) c (fillL c (j + 1) (.complex .f64 0 0) (fun j => cv (ptK c k j))) := fun N => by
        rw [← fill_set]; exact ((show (wr.drewN N).ownsRow _ _ _ _ _ _ from HO.out).stored j (cv (ptK c k j))).1
      have HS := Lib.hid hs1
      have hB2 : ∀ N, Below G w ((wr.drewN N).setCell ⟨G, j, none⟩ (cv (ptK c k j))) := fun N => (below_drewN hb N).setCell (Nat.le_refl _) _
      have HB2 := Lib.hid hB2
      have hcell : wr.cell? ⟨G, j, none⟩ = some (.complex .f64 0 0) := by
        rw [HO.out.cellAt j (by omega)]
        simp [fillL, hlt]
      have hfree := HO.out.frozenAt j
      unfold cv ptK at HS HB2
      clear hs1 hB2
      go_wp2
      go_roundw
      case rel => exact ⟨j + 1, by omega, by go_num, HS.out _, HB2.out _⟩
      case measure => simp [intOf]; omega
    · obtain rfl : j = c := by omega
      have hge : ¬ (j : Int) < (j : Int) := by omega
      rw [fill_full, ← pts_cv] at ho
      go_wp2
      go_ret2
      exact ⟨G, rfl, by rw [hG]; exact ho, by rw [hG]; exact hb⟩
end Go.Proofs.Ytokmommlabdcdaa
namespace Go.Proofs.Ytokmommlabdcdaa
open Fl Go.RowKit
namespace StartAwake
theorem pt0 : ptK 1 0 0 = (4604697674178019892, 4604387081100270203) := by decide +kernel
theorem sub1 (w : World) : fop .sub 4604697674178019892 4604697674178019893 w = 13591863675404156928 := by
  rw [fop_eq_sub (by decide) (by decide) (by decide)]; decide +kernel
theorem sub2 (w : World) : fop .sub 4604387081100270203 4604387081100270204 w = 13591863675404156928 := by
  rw [fop_eq_sub (by decide) (by decide) (by decide)]; decide +kernel
theorem rg1 : rg 13591863675404156928 = 4368491638549381120 := by decide
theorem ord1 : (FloatKind.f64.format.order 4368491638549381120 4472406533629990549 == some Ordering.lt) = true := by decide +kernel
theorem absC (w : World) : Calls Try.prog 22 #[.float .f64 13591863675404156928] w fun e w' => e = .returned (.float .f64 4368491638549381120) ∧ w = w' := by
  have := abs_any 13591863675404156928 (by decide) w
  rwa [rg1] at this
end StartAwake
set_option maxRecDepth 100000 in
set_option maxHeartbeats 1000000 in
theorem awake17_any (w : World) :
    Calls Try.prog 5 #[] w fun e w' => e = .returned (.bool true) ∧ Below w.heap.size w w' := by
  go_enter Try.func5, Try.ntmps5
  go_wp2_with fail
  refine (points_ok 1 0 _ (by omega) (by omega) (by omega) (by omega)).mono ?_
  rintro e w1 ⟨g, rfl, ho, hb⟩
  have hc : w1.cell? ⟨g, 0, none⟩ = some (.complex .f64 4604697674178019892 4604387081100270203) := by
    rw [ho.cellAt 0 (by omega)]
    show some (cv (ptK 1 0 0)) = _
    rw [StartAwake.pt0]; rfl
  have s1 := StartAwake.sub1
  have s2 := StartAwake.sub2
  have o1 := StartAwake.ord1
  have HB := Lib.hid hb
  clear ho hb
  go_wp2_with fail
  refine (num_any _ _).mono ?_
  rintro e w' ⟨rfl, rfl⟩
  go_wp2_with fail
  all_goals
    refine (StartAwake.absC _).mono ?_
    rintro e w' ⟨rfl, rfl⟩
    go_wp2_with fail
    refine (StartAwake.absC _).mono ?_
    rintro e w' ⟨rfl, rfl⟩
    go_wp2_with fail
    go_ret
    first | exact ⟨rfl, HB.out⟩ | exact ⟨rfl, below_drewN HB.out _⟩ | exact ⟨rfl, HB.out.drew⟩
end Go.Proofs.Ytokmommlabdcdaa
