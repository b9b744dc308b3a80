/- Contract of surdref17.Points: a new list of the points, or the error. surdlaw0's SameNums, SpoilNums. -/
import Derived.Test.YtokmommlabdcdaaSSp3
import Derived.Test.YtokmommlabdcdaaSPoints
import Derived.OwnWalk
import Derived.ChangeKeysEq
import Derived.Test.YtokmommlabdcdaaSFlArgs2
import Derived.Deep.RegionHeld3
import Derived.Deep.RegionLaw
set_option linter.unusedVariables false
set_option linter.unusedSimpArgs false
set_option linter.unusedVariables false
set_option linter.unusedSimpArgs false
namespace Go.Proofs.Ytokmommlabdcdaa
open Wd Fl Go.RowKit
theorem own_later {w w1 : World} {base n : Nat} {T : TypeId} {v : Value} {xs : List Value} (h : w.ownsRow base T 1 v n xs) (hb : Below w.heap.size w w1) : w1.ownsRow base T 1 v n xs := by
  refine ⟨h.1, ?_⟩
  rcases h.2 with h | ⟨g, cap, cur, h1, h2, h3, h4⟩
  · exact .inl h
  · exact .inr ⟨g, cap, cur, h1, h2, (hb.block g (Array.getElem?_eq_some_iff.1 h3).1).trans h3, h4⟩
theorem fq_lt (q : Rat) (s : Bool) : fq q s < 2 ^ 64 := by
  have h := INF_lt
  unfold fq
  split
  · exact wd_lt _ _ (by decide)
  · exact wd_lt _ _ (Nat.lt_of_le_of_lt (rq_le _ _) h)
theorem sm_small {a b : Nat} (ha : a < 18446744073709551616) (hb : b < 18446744073709551616) : Sm a b := by
  by_cases h : a = 0
  · exact .inl h
  · by_cases g : b = 0
    · exact .inr (.inl g)
    · obtain ⟨p, c, e1, o1⟩ := twos_of h
      obtain ⟨q, d, e2, o2⟩ := twos_of g
      have l1 : c ≤ a := by rw [e1]; exact Nat.le_mul_of_pos_left _ (Nat.two_pow_pos p)
      have l2 : d ≤ b := by rw [e2]; exact Nat.le_mul_of_pos_left _ (Nat.two_pow_pos q)
      exact .inr (.inr ⟨p, q, c, d, e1, e2, o1, o2, .inr (.inr ⟨by omega, by omega⟩)⟩)
theorem bl_small {n : Int} (h : n.natAbs < 1024) : bl n ≤ 10 := blen_of_lt (by simpa using h)
def RPts (c : Nat) (k : Int) (w : World) (e : Ending) (w' : World) : Prop :=
  ∃ v, e = .returned (.tuple #[v, .int .i64 0]) ∧ w'.ownsRow w.heap.size 38 1 v c ((pts c k).map cv) ∧ Below w.heap.size w w'
theorem rpoints_many (c k : Int) (w : World) (h : c < 1 ∨ 64 < c) :
    Calls Try.prog 6 #[.int .i64 c, .int .i64 k] w (PtsBad 170 w) := by
  rcases h with h | h
  · go_enter Try.func6, Try.ntmps6
    go_wp2
    go_ret2
    exact ⟨rfl, rfl⟩
  · have h' : ¬ c < 1 := by omega
    go_enter Try.func6, Try.ntmps6
    go_wp2
    go_ret2
    exact ⟨rfl, rfl⟩
theorem rpoints_scale (c k : Int) (w : World) (h1 : 1 ≤ c) (h2 : c ≤ 64) (h : k < -1000 ∨ 1000 < k) :
    Calls Try.prog 6 #[.int .i64 c, .int .i64 k] w (PtsBad 171 w) := by
  rcases h with h | h
  · go_enter Try.func6, Try.ntmps6
    go_wp2
    go_ret2
    exact ⟨rfl, rfl⟩
  · have h' : ¬ k < -1000 := by omega
    go_enter Try.func6, Try.ntmps6
    go_wp2
    go_ret2
    exact ⟨rfl, rfl⟩
def PtL (c : Nat) (k : Int) (w : World) (so si : Value) (wr : World) : Prop := ∃ j : Nat, j ≤ c ∧ si = .int .i64 j ∧ wr.ownsRow w.heap.size 38 1 so j (((List.range j).map (ptK c k)).map cv) ∧ Below w.heap.size w wr
theorem circle17 {c m : Nat} (h1 : 1 ≤ c) (h2 : c ≤ 64) (hm : m < c) (w : World) :
    Calls Try.prog 23 #[.float .f64 (tW c m)] w fun e w' => e = .returned (.tuple #[.float .f64 (xW c m), .float .f64 (yW c m)]) ∧ Below w.heap.size w w' := by
  have F := pt_facts h2 hm
  have u0 := F.u0
  rw [mvF_eq] at u0
  refine circle_any (tW c m) (ttW c m) (uW c m) (dW c m) (xW c m) (yW c m) w (t_lt h1 h2 hm).1 F.tl ?_ ?_ F.t F.tt F.u F.d u0 ?_ (pt_tt h1 h2 hm) (pt_u h1 h2 hm) (pt_d h1 h2 hm) (pt_x h1 h2 hm) (pt_y h1 h2 hm)
  · rw [← pt_u h1 h2 hm]; exact fq_lt _ _
  · rw [← pt_d h1 h2 hm]; exact fq_lt _ _
  · rw [← pt_t2 h1 h2 hm]; exact dy_fv F.t2
theorem scaled17 {x : Nat} {k : Int} (hx : Mid x) (h1 : -1000 ≤ k) (h2 : k ≤ 1000) (w : World) :
    Calls Try.prog 26 #[.float .f64 x, .int .i64 k] w (NearRet (ldx x k) w) := by
  obtain ⟨_, b, _, _⟩ := hx.ld h1 h2
  exact scaled17_any x k _ w hx.lt b h1 h2 (fq_scaled hx h1 h2)
theorem newRat17 {c m : Nat} (h1 : 1 ≤ c) (h2 : c ≤ 64) (hm : m < c) (w : World) :
    Calls Try.prog 25 #[.int .i64 (5 * (m : Int) + 2), .int .i64 (5 * (c : Int))] w (RNew (mkRat (5 * (m : Int) + 2) (5 * c)) w) := by
  have := newRat_any (5 * (m : Int) + 2) (5 * c) w (by omega) (by omega) (by omega) (by omega) (sm_small (by omega) (by omega)) (Nat.le_trans (bl_small (by omega)) (by decide)) (Nat.le_trans (bl_small (by omega)) (by decide))
  rwa [Int.natCast_mul, show ((5 : Nat) : Int) = 5 from rfl] at this
theorem near17 {c m : Nat} (h1 : 1 ≤ c) (h2 : c ≤ 64) (hm : m < c) (b : Nat) (w : World) (hx : RatAt w b (mkRat (5 * (m : Int) + 2) (5 * c))) :
    Calls Try.prog 24 #[.pointer (some ⟨b, 0, none⟩)] w (NearRet (tW c m) w) := by
  rw [← near_t h1 h2 hm]
  have hb := rb_mkRat_bl (n := 5 * (m : Int) + 2) (d := 5 * c) (B := 10) (C := 10) (by omega) (bl_small (by omega)) (bl_small (by omega))
  exact near_any b _ w hx (by omega) (by omega)
theorem ldx_lt {x : Nat} {k : Int} (hx : Mid x) (h1 : -1000 ≤ k) (h2 : k ≤ 1000) : ldx x k < 2 ^ 64 := by
  obtain ⟨_, _, c, d⟩ := hx.ld h1 h2
  exact (ldx_facts c d).2.2.2
theorem rXY0 (x y : Nat) : cv (rX 0 x y, rY 0 x y) = .complex .f64 x y := by simp [cv, rX, rY]
theorem rXY1 (x y : Nat) : cv (rX 1 x y, rY 1 x y) = .complex .f64 (neg y) x := by simp [cv, rX, rY]
theorem rXY2 (x y : Nat) : cv (rX 2 x y, rY 2 x y) = .complex .f64 (neg x) (neg y) := by simp [cv, rX, rY]
theorem rXY3 (x y : Nat) : cv (rX 3 x y, rY 3 x y) = .complex .f64 y (neg x) := by simp [cv, rX, rY]
theorem cells38 : Try.prog.cellsOf 38 = 1 := by kernel_rfl
theorem idx4 (cs : Array Value) (q : Nat) (x : Value) (hq : q < 4) (hx : cs[q]? = some x) (w : World) : (Instr.index 41 (.agg cs) (.int .i64 (q : Int))).run Try.prog w = .ok x w := by
  obtain ⟨i0, hi0, hz0, hz1, hz2⟩ := info_parts infoC
  have h1 : (0 : Int) ≤ (q : Int) ∧ (q : Int) < ((4 : Nat) : Int) := by omega
  simp [Instr.index, asIntOf, run_underlying Try.underlying41, run_underlying Try.underlying38, part, isAgg, run_sizeOf w hi0, cells38, h1, hx, go_sem]
  intro h; omega
set_option maxRecDepth 100000 in
set_option maxHeartbeats 4000000 in
theorem rpoints_ok (c : Nat) (k : Int) (w : World) (h1 : 1 ≤ c) (h2 : c ≤ 64) (h3 : -1000 ≤ k) (h4 : k ≤ 1000) :
    Calls Try.prog 6 #[.int .i64 c, .int .i64 k] w (RPts c k w) := by
  obtain ⟨i0, hi0, hz0, hz1, hz2⟩ := info_parts infoC
  have c1 : (1 : Int) ≤ (c : Int) := by omega
  have c2 : (c : Int) ≤ 64 := by omega
  have H1 := Lib.hid h1
  have H2 := Lib.hid h2
  go_enter Try.func6, Try.ntmps6
  go_wp2_with fail
  go_loopw [6, 7] (fun so si wr => PtL c k w so si wr) (fun _ si _ => c - (intOf si).toNat)
  case atStart => exact ⟨0, by omega, rfl, own_nil _ _ _ _, Below.refl _ _⟩
  case round =>
    obtain ⟨j, hj, rfl, ho, hb⟩ := hrel
    have O := Lib.hid ho
    have B := Lib.hid hb
    clear ho hb
    by_cases hlt : j < c
    · have hlt' : (j : Int) < (c : Int) := by omega
      obtain ⟨q, hq⟩ : ∃ q, 4 * j / c = q := ⟨_, rfl⟩
      obtain ⟨m, hm⟩ : ∃ m, 4 * j % c = m := ⟨_, rfl⟩
      obtain ⟨Q, b1, eQ⟩ : ∃ Q : Int, (4 * (j : Int)) / (c : Int) = Q ∧ Q = q := ⟨_, rfl, by rw [← hq, Int.natCast_ediv, Int.natCast_mul]; rfl⟩
      have b2 : (4 * (j : Int)) % (c : Int) = (m : Int) := by rw [← hm, Int.natCast_emod, Int.natCast_mul]; rfl
      have hmc : m < c := by rw [← hm]; exact Nat.mod_lt _ h1
      have hq4 : q < 4 := by rw [← hq]; exact (Nat.div_lt_iff_lt_mul h1).2 (by omega)
      have PK := ptK_of h1 h2 hq hm h3 h4
      obtain ⟨mx, my⟩ := pt_mid h2 hmc
      have NR := Lib.hid (newRat17 h1 h2 hmc)
      have NE := Lib.hid (near17 h1 h2 hmc)
      have CI := Lib.hid (circle17 h1 h2 hmc)
      have SX := Lib.hid (scaled17 mx h3 h4)
      have SY := Lib.hid (scaled17 my h3 h4)
      have n1 := unary_neg (ldx (xW c m) k) (ldx_lt mx h3 h4)
      have n2 := unary_neg (ldx (yW c m) k) (ldx_lt my h3 h4)
      generalize tW c m = T at *
      generalize ldx (xW c m) k = X at *
      generalize ldx (yW c m) k = Y at *
      generalize xW c m = X0 at *
      generalize yW c m = Y0 at *
      have EQ := Lib.hid eQ
      have PK := Lib.hid PK
      have m64 : m < 64 := by omega
      have j0 : (j : Int) < 64 := by omega
      have hQ : Q = 0 ∨ Q = 1 ∨ Q = 2 ∨ Q = 3 := by omega
      have NXT := Lib.hid (show ∀ v' w1, w1.ownsRow w.heap.size 38 1 v' (j + 1) ((((List.range j).map (ptK c k)).map cv) ++ [cv (ptK c k j)]) → Below w.heap.size w w1 → PtL c k w v' (.int .i64 ((j + 1 : Nat) : Int)) w1 from fun v' w1 h g => ⟨j + 1, by omega, rfl, by rw [List.range_succ, List.map_append, List.map_append]; exact h, g⟩)
      clear eQ hq hm hmc mx my
      go_wp2_with fail
      refine (NR.out _).mono ?_
      rintro e v1 ⟨bq, rfl, hra, hle, hb⟩
      have R1 := Lib.hid hra
      have B1 := Lib.hid (B.out.trans (hb.mono B.out.size))
      have O1 := Lib.hid (own_later O.out hb)
      clear hra hle hb
      go_wp2_with fail
      refine (NE.out bq v1 R1.out).mono ?_
      rintro e v2 ⟨rfl, hb⟩
      have B2 := Lib.hid (B1.out.trans (hb.mono B1.out.size))
      have O2 := Lib.hid (own_later O1.out hb)
      clear hb
      go_wp2_with fail
      refine (CI.out v2).mono ?_
      rintro e v3 ⟨rfl, hb⟩
      have B3 := Lib.hid (B2.out.trans (hb.mono B2.out.size))
      have O3 := Lib.hid (own_later O2.out hb)
      clear hb
      go_wp2_with fail
      refine (SX.out v3).mono ?_
      rintro e v4 ⟨rfl, hb⟩
      have B4 := Lib.hid (B3.out.trans (hb.mono B3.out.size))
      have O4 := Lib.hid (own_later O3.out hb)
      clear hb
      go_wp2_with fail
      refine (SY.out v4).mono ?_
      rintro e v5 ⟨rfl, hb⟩
      have B5 := Lib.hid (B4.out.trans (hb.mono B4.out.size))
      have O5 := Lib.hid (own_later O4.out hb)
      clear hb
      rcases hQ with rfl | rfl | rfl | rfl
      · obtain rfl : q = 0 := by have := EQ.out; omega
        have IX : ∀ w, (Instr.index 41 (.agg #[.complex .f64 X Y, .complex .f64 (neg Y) X, .complex .f64 (neg X) (neg Y), .complex .f64 Y (neg X)]) (.int .i64 0)).run Try.prog w = .ok (.complex .f64 X Y) w := fun w => idx4 _ 0 _ (by decide) rfl w
        have EL : cv (ptK c k j) = .complex .f64 X Y := by rw [PK.out]; exact rXY0 X Y
        rw [EL] at NXT
        clear EL
        have w1' : IntKind.i64.wrap ((j : Int) + 1) = ((j + 1 : Nat) : Int) := by rw [show ((j + 1 : Nat) : Int) = (j : Int) + 1 by omega]; exact IntWalk.i64_in _ (by omega)
        go_wp2_with (at_builtin; refine wpList_append_own _ rfl _ _ 23 rfl w.heap.size 38 i0 (.complex .f64 0 0) 1 16 Try.underlying23 hi0 hz0 hz1 hz2 rfl (by decide) _ j _ rfl (O5.out.alloc _) ⟨_, 0, none⟩ 1 1 [.complex .f64 X Y] rfl rfl (World.news_of_block (cs := #[.complex .f64 X Y]) (t := 38) (fr := (0, 0)) (heap_alloc_new _ _)) (by simp [Value.oneCell']) (by unfold maxLen; omega) (by omega) (by simp; have := B5.out.size; omega) ?_; intro v' w1 hown1 hgrow _; have hB := Lib.hid ((B5.out.alloc B5.out.size _).grown hgrow (by simp; have := B5.out.size; omega) (own_ge O5.out)); have NX := Lib.hid (NXT.out v' w1 hown1 hB.out); clear hown1 hgrow)
        go_roundw
        case rel => (try rw [w1']); exact NX.out
        case measure => (try rw [w1']); simp only [intOf]; omega
      · obtain rfl : q = 1 := by have := EQ.out; omega
        have IX : ∀ w, (Instr.index 41 (.agg #[.complex .f64 X Y, .complex .f64 (neg Y) X, .complex .f64 (neg X) (neg Y), .complex .f64 Y (neg X)]) (.int .i64 1)).run Try.prog w = .ok (.complex .f64 (neg Y) X) w := fun w => idx4 _ 1 _ (by decide) rfl w
        have EL : cv (ptK c k j) = .complex .f64 (neg Y) X := by rw [PK.out]; exact rXY1 X Y
        rw [EL] at NXT
        clear EL
        have w1' : IntKind.i64.wrap ((j : Int) + 1) = ((j + 1 : Nat) : Int) := by rw [show ((j + 1 : Nat) : Int) = (j : Int) + 1 by omega]; exact IntWalk.i64_in _ (by omega)
        go_wp2_with (at_builtin; refine wpList_append_own _ rfl _ _ 23 rfl w.heap.size 38 i0 (.complex .f64 0 0) 1 16 Try.underlying23 hi0 hz0 hz1 hz2 rfl (by decide) _ j _ rfl (O5.out.alloc _) ⟨_, 0, none⟩ 1 1 [.complex .f64 (neg Y) X] rfl rfl (World.news_of_block (cs := #[.complex .f64 (neg Y) X]) (t := 38) (fr := (0, 0)) (heap_alloc_new _ _)) (by simp [Value.oneCell']) (by unfold maxLen; omega) (by omega) (by simp; have := B5.out.size; omega) ?_; intro v' w1 hown1 hgrow _; have hB := Lib.hid ((B5.out.alloc B5.out.size _).grown hgrow (by simp; have := B5.out.size; omega) (own_ge O5.out)); have NX := Lib.hid (NXT.out v' w1 hown1 hB.out); clear hown1 hgrow)
        go_roundw
        case rel => (try rw [w1']); exact NX.out
        case measure => (try rw [w1']); simp only [intOf]; omega
      · obtain rfl : q = 2 := by have := EQ.out; omega
        have IX : ∀ w, (Instr.index 41 (.agg #[.complex .f64 X Y, .complex .f64 (neg Y) X, .complex .f64 (neg X) (neg Y), .complex .f64 Y (neg X)]) (.int .i64 2)).run Try.prog w = .ok (.complex .f64 (neg X) (neg Y)) w := fun w => idx4 _ 2 _ (by decide) rfl w
        have EL : cv (ptK c k j) = .complex .f64 (neg X) (neg Y) := by rw [PK.out]; exact rXY2 X Y
        rw [EL] at NXT
        clear EL
        have w1' : IntKind.i64.wrap ((j : Int) + 1) = ((j + 1 : Nat) : Int) := by rw [show ((j + 1 : Nat) : Int) = (j : Int) + 1 by omega]; exact IntWalk.i64_in _ (by omega)
        go_wp2_with (at_builtin; refine wpList_append_own _ rfl _ _ 23 rfl w.heap.size 38 i0 (.complex .f64 0 0) 1 16 Try.underlying23 hi0 hz0 hz1 hz2 rfl (by decide) _ j _ rfl (O5.out.alloc _) ⟨_, 0, none⟩ 1 1 [.complex .f64 (neg X) (neg Y)] rfl rfl (World.news_of_block (cs := #[.complex .f64 (neg X) (neg Y)]) (t := 38) (fr := (0, 0)) (heap_alloc_new _ _)) (by simp [Value.oneCell']) (by unfold maxLen; omega) (by omega) (by simp; have := B5.out.size; omega) ?_; intro v' w1 hown1 hgrow _; have hB := Lib.hid ((B5.out.alloc B5.out.size _).grown hgrow (by simp; have := B5.out.size; omega) (own_ge O5.out)); have NX := Lib.hid (NXT.out v' w1 hown1 hB.out); clear hown1 hgrow)
        go_roundw
        case rel => (try rw [w1']); exact NX.out
        case measure => (try rw [w1']); simp only [intOf]; omega
      · obtain rfl : q = 3 := by have := EQ.out; omega
        have IX : ∀ w, (Instr.index 41 (.agg #[.complex .f64 X Y, .complex .f64 (neg Y) X, .complex .f64 (neg X) (neg Y), .complex .f64 Y (neg X)]) (.int .i64 3)).run Try.prog w = .ok (.complex .f64 Y (neg X)) w := fun w => idx4 _ 3 _ (by decide) rfl w
        have EL : cv (ptK c k j) = .complex .f64 Y (neg X) := by rw [PK.out]; exact rXY3 X Y
        rw [EL] at NXT
        clear EL
        have w1' : IntKind.i64.wrap ((j : Int) + 1) = ((j + 1 : Nat) : Int) := by rw [show ((j + 1 : Nat) : Int) = (j : Int) + 1 by omega]; exact IntWalk.i64_in _ (by omega)
        go_wp2_with (at_builtin; refine wpList_append_own _ rfl _ _ 23 rfl w.heap.size 38 i0 (.complex .f64 0 0) 1 16 Try.underlying23 hi0 hz0 hz1 hz2 rfl (by decide) _ j _ rfl (O5.out.alloc _) ⟨_, 0, none⟩ 1 1 [.complex .f64 Y (neg X)] rfl rfl (World.news_of_block (cs := #[.complex .f64 Y (neg X)]) (t := 38) (fr := (0, 0)) (heap_alloc_new _ _)) (by simp [Value.oneCell']) (by unfold maxLen; omega) (by omega) (by simp; have := B5.out.size; omega) ?_; intro v' w1 hown1 hgrow _; have hB := Lib.hid ((B5.out.alloc B5.out.size _).grown hgrow (by simp; have := B5.out.size; omega) (own_ge O5.out)); have NX := Lib.hid (NXT.out v' w1 hown1 hB.out); clear hown1 hgrow)
        go_roundw
        case rel => (try rw [w1']); exact NX.out
        case measure => (try rw [w1']); simp only [intOf]; omega
    · obtain rfl : j = c := by omega
      have hge : ¬ (j : Int) < (j : Int) := by omega
      go_wp2_with fail
      go_ret2
      exact ⟨_, rfl, O.out, B.out⟩
end Go.Proofs.Ytokmommlabdcdaa
set_option linter.unusedVariables false
set_option linter.unusedSimpArgs false
namespace Go.Proofs.Ytokmommlabdcdaa
open Wd Fl Go.RowKit
theorem same_self (a b : Nat) : sameCB a b a b = true := sameCB_true (Same.refl _) (Same.refl _)
set_option maxRecDepth 100000 in
set_option maxHeartbeats 3200000 in
theorem sameNums_any (cs : List Cpx) (v u : Value) (w : World) (hv : Sl w v cs) (hu : Sl w u cs) (hl : cs.length * 16 ≤ 140737488351232) :
    Calls Try.prog 9 #[v, u] w fun e w' => e = .returned (.bool true) ∧ ∃ n, w' = w.drewN n := by
  have HL := Lib.hid hl
  have HV := Lib.hid hv
  have HU := Lib.hid hu
  obtain ⟨a, cap, rfl, ha⟩ : ∃ a cap, v = .slice a cs.length cap ∧ (0 < cs.length → ∃ b off, a = some ⟨b, off, none⟩ ∧ cs.length ≤ cap ∧ Cells w b off cs) := by
    rcases hv with ⟨rfl, rfl⟩ | ⟨b, off, cap, rfl, h1, h2⟩
    · exact ⟨_, _, rfl, fun h => absurd h (by decide)⟩
    · exact ⟨_, _, rfl, fun _ => ⟨b, off, rfl, h1, h2⟩⟩
  obtain ⟨a', cap', rfl, ha'⟩ : ∃ a cap, u = .slice a cs.length cap ∧ (0 < cs.length → ∃ b off, a = some ⟨b, off, none⟩ ∧ cs.length ≤ cap ∧ Cells w b off cs) := by
    rcases hu with ⟨rfl, rfl⟩ | ⟨b, off, cap, rfl, h1, h2⟩
    · exact ⟨_, _, rfl, fun h => absurd h (by decide)⟩
    · exact ⟨_, _, rfl, fun _ => ⟨b, off, rfl, h1, h2⟩⟩
  have HA := Lib.hid ha
  have HA' := Lib.hid ha'
  have nn : ((cs.length : Int) == (cs.length : Int)) = true := beq_self_eq_true _
  clear hv hu hl ha ha' HV HU
  go_enter Try.func9, Try.ntmps9
  go_wp2_with fail
  go_loopw [5] (fun si wr => ∃ k n : Nat, k ≤ cs.length ∧ si = .int .i64 (k : Int) ∧ wr = w.drewN n) (fun si _ => cs.length - (intOf si).toNat)
  case atStart => exact ⟨0, 0, Nat.zero_le _, rfl, rfl⟩
  case round =>
    obtain ⟨k, n, hk, rfl, rfl⟩ := hrel
    have HK := Lib.hid hk
    clear hk
    by_cases hlt : k < cs.length
    · obtain ⟨b, off, rfl, hcap, hc⟩ := HA.out (by omega)
      obtain ⟨b', off', rfl, hcap', hc'⟩ := HA'.out (by omega)
      have hlt' : decide ((k : Int) < (cs.length : Int)) = true := decide_eq_true (by omega)
      have hlt2 : (k : Int) < (cs.length : Int) := by omega
      have nc : (cs.length : Int) ≤ (cap : Int) := by omega
      have nc' : (cs.length : Int) ≤ (cap' : Int) := by omega
      obtain ⟨c, hcc⟩ : ∃ c, nth cs k = c := ⟨_, rfl⟩
      have ck0 := hc k hlt
      have ck0' := hc' k hlt
      rw [hcc] at ck0 ck0'
      obtain ⟨c1, c2⟩ := c
      have ck : w.cell? ⟨b, off + k, none⟩ = some (.complex .f64 c1 c2) := ck0
      have ck' : w.cell? ⟨b', off' + k, none⟩ = some (.complex .f64 c1 c2) := ck0'
      have hs := same_self c1 c2
      have hw1 : IntKind.i64.wrap ((k : Int) + 1) = ((k + 1 : Nat) : Int) := by have := HL.out; rw [show ((k + 1 : Nat) : Int) = (k : Int) + 1 by omega]; exact IntWalk.i64_in _ (by omega)
      clear hc hc' hcap hcap' ck0 ck0' hcc
      go_wp2_with fail
      go_region_law ((go_simp; go_at_call 28; (with_reducible refine (sameC_any c1 c2 c1 c2 _).mono ?_); rintro e w' ⟨rfl, rfl⟩))
      all_goals
        go_wp2_with fail
        go_roundw
        case rel => exact ⟨k + 1, _, by omega, rfl, rfl⟩
        case measure => simp [intOf]; omega
    · obtain rfl : k = cs.length := by have := HK.out; omega
      have hge : decide ((cs.length : Int) < (cs.length : Int)) = false := decide_eq_false (by omega)
      clear hlt
      go_wp2_with fail
      go_ret
      exact ⟨rfl, _, rfl⟩
/-- a row of cap numbers, whatever they are -/
def Row (w : World) (g cap : Nat) : Prop := ∃ cur : Array Value, w.heap[g]? = some (.cells cur 38 (0, 0)) ∧ cur.size = cap
theorem Row.wr {w w' : World} {g cap lo hi : Nat} (h : Row w g cap) (k : Wr g lo hi w w') : Row w' g cap := by
  obtain ⟨cur, h1, h2⟩ := h
  obtain ⟨cur', h3, h4, _⟩ := k.own cur _ h1
  exact ⟨cur', h3, h4.trans h2⟩
theorem Row.at {w : World} {g cap k : Nat} (h : Row w g cap) (hk : k < cap) : (∃ v, w.cell? ⟨g, k, none⟩ = some v) ∧ w.frozen? ⟨g, k, none⟩ = false := by
  obtain ⟨cur, h1, rfl⟩ := h
  exact ⟨⟨cur[k], by rw [cell_of_row _ _ _ _ _ _ h1]; simp [hk]⟩, frozen_of_row w g k _ _ h1⟩
set_option maxRecDepth 100000 in
set_option maxHeartbeats 3200000 in
theorem spoilNums_any (g m cap : Nat) (w : World) (h : Row w g cap) (hm : m ≤ cap) (hl : cap ≤ maxLen) :
    Calls Try.prog 10 #[.slice (some ⟨g, 0, none⟩) m cap] w fun e w' => (∃ v, e = .returned v) ∧ Wr g 0 cap w w' := by
  have H := Lib.hid h
  have HL := Lib.hid hl
  have mI : (m : Int) ≤ (cap : Int) := by omega
  have cc : (cap : Int) ≤ (cap : Int) := Int.le_refl _
  clear h hl
  go_enter Try.func10, Try.ntmps10
  go_wp2_with fail
  go_loopw [3] (fun si wr => ∃ k : Nat, k ≤ cap ∧ si = .int .i64 (k : Int) ∧ Wr g 0 cap w wr) (fun si _ => cap - (intOf si).toNat)
  case atStart => exact ⟨0, Nat.zero_le _, rfl, Wr.refl _ _ _ _⟩
  case round =>
    obtain ⟨k, hk, rfl, hw⟩ := hrel
    have HK := Lib.hid hk
    have HW := Lib.hid hw
    clear hk hw
    by_cases hlt : k < cap
    · have hlt' : decide ((k : Int) < (cap : Int)) = true := decide_eq_true (by omega)
      have hlt2 : (k : Int) < (cap : Int) := by omega
      obtain ⟨⟨cv0, hc⟩, hf⟩ := (H.out.wr HW.out).at hlt
      have hw1 : IntKind.i64.wrap ((k : Int) + 1) = ((k + 1 : Nat) : Int) := by have := HL.out; unfold maxLen at this; rw [show ((k + 1 : Nat) : Int) = (k : Int) + 1 by omega]; exact IntWalk.i64_in _ (by omega)
      go_wp2_with fail
      go_roundw
      case rel => exact ⟨k + 1, by omega, rfl, HW.out.trans (Wr.set _ (by omega) hlt)⟩
      case measure => simp [intOf]; omega
    · obtain rfl : k = cap := by have := HK.out; omega
      have hge : decide ((k : Int) < (k : Int)) = false := decide_eq_false (by omega)
      clear hlt
      go_wp2_with fail
      go_end0
      exact ⟨⟨_, rfl⟩, HW.out⟩
end Go.Proofs.Ytokmommlabdcdaa
