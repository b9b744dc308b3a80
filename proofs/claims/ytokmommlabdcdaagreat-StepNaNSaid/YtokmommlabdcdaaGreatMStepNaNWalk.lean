/- The walk of StepNaN. -/
import Derived.Test.YtokmommlabdcdaaGreatMStepNewtonsWalk
import Derived.Test.YtokmommlabdcdaaGreatMNaN
import Derived.Laws.OwnMore
set_option linter.unusedVariables false
set_option linter.unusedSimpArgs false
set_option linter.unusedVariables false
set_option linter.unusedSimpArgs false
namespace Go.Proofs.YtokmommlabdcdaaGreat
open Wd Fl Go.RowKit
theorem andLe (x : Int) (m : Nat) (hm : m < 2 ^ 62) : 0 ≤ bits .and .i64 x m ∧ bits .and .i64 x m ≤ m := by
  have h : (BitVec.ofInt 64 x &&& BitVec.ofInt 64 m).toNat ≤ m := by
    rw [BitVec.toNat_and]
    refine Nat.le_trans Nat.and_le_right ?_
    rw [BitVec.toNat_ofInt]
    omega
  show 0 ≤ IntKind.i64.wrap ((BitVec.ofInt 64 x &&& BitVec.ofInt 64 m).toNat : Int) ∧ IntKind.i64.wrap ((BitVec.ofInt 64 x &&& BitVec.ofInt 64 m).toNat : Int) ≤ m
  rw [IntKind.wrap_i64]
  omega
theorem modAt (x : Int) (n : Nat) (hn : 0 < n) : ∃ k : Nat, k < n ∧ (bits .and .i64 x 63).tmod (n : Int) = (k : Int) := by
  obtain ⟨h0, _⟩ := andLe x 63 (by decide)
  obtain ⟨y, hy⟩ := Int.eq_ofNat_of_zero_le h0
  refine ⟨y % n, Nat.mod_lt _ hn, ?_⟩
  rw [show bits .and .i64 x 63 = (y : Int) from hy]
  exact Int.ofNat_tmod y n
theorem own_kept {w w' : World} {base : Nat} {e : TypeId} {size : Nat} {v : Value} {n : Nat} {xs : List Value} (h : w.ownsRow base e size v n xs) (hb : Below w.heap.size w w') : w'.ownsRow base e size v n xs := by
  refine ⟨h.1, ?_⟩
  rcases h.2 with h | ⟨g, cap, cur, h1, h2, h3, h4⟩
  · exact .inl h
  · exact .inr ⟨g, cap, cur, h1, h2, (hb.block g (Array.getElem?_eq_some_iff.1 h3).1).trans h3, h4⟩
theorem nth_set (zs : List Cpx) (k : Nat) (p : Cpx) (hk : k < zs.length) (i : Nat) : nth (zs.set k p) i = if i = k then p else nth zs i := by
  unfold nth
  rw [List.getD_eq_getElem?_getD, List.getD_eq_getElem?_getD, List.getElem?_set]
  by_cases h : k = i
  · subst h; simp [hk]
  · rw [if_neg h, if_neg (fun e => h e.symm)]
theorem csOk_set {zs : List Cpx} (h : CsOk zs) (k : Nat) (p : Cpx) (hk : k < zs.length) (hp : p.1 < 2 ^ 64 ∧ p.2 < 2 ^ 64) : CsOk (zs.set k p) := fun i hi => by
  rw [nth_set zs k p hk]
  split
  · exact hp
  · exact nthOk h i
theorem cs_own (bs : List Cpx) (n : Nat) (hn : bs.length = n) (v : Value) (w : World) (h0 : 0 < n) (hv : BitsAt w v bs) (hok : BitsOk bs) : Calls Tryz.prog 25 #[v] w fun e w' => ∃ g cap, e = .returned (.slice (some ⟨g, 0, none⟩) n cap) ∧ w'.ownsRow w.heap.size 26 1 (.slice (some ⟨g, 0, none⟩) n cap) n (bs.map cv) ∧ w.heap.size ≤ g ∧ g < w'.heap.size ∧ n ≤ cap ∧ Below w.heap.size w w' := by
  subst hn
  refine (cs_any bs v w hv hok).mono ?_
  rintro e w' ⟨u, rfl, ho, hb⟩
  obtain ⟨g, cap, rfl, h1, h2⟩ := ho.form h0
  refine ⟨g, cap, rfl, ho, h1, h2, ?_, hb⟩
  rcases ho.2 with ⟨h, _⟩ | ⟨g', cap', cur, he, _, _, h, _⟩
  · cases h
  · cases he; exact h
theorem nanWord : isNan 9221120237041090560 := by decide
set_option maxRecDepth 100000 in
set_option maxHeartbeats 8000000 in
theorem stepNaN_z0 (bs : List Cpx) (v : Value) (ls : List Cpx) (v2 : Value) (i wh way : Int) (w : World) (hv : BitsAt w v bs ∧ BitsOk bs) (hv2 : BitsAt w v2 ls ∧ BitsOk ls) (h2 : 2 ≤ bs.length) (h65 : bs.length ≤ 65) (hl : ls.length + 1 = bs.length)
    (hb1 : (bits .and .i64 wh 1 == 1) = false) (hb2 : (bits .and .i64 wh 2 == 2) = true) :
    Calls Tryz.prog 8 #[v, v2, .int .i64 i, .int .i64 wh, .int .i64 way] w fun e w' => e = .returned (.bool true) ∧ Below w.heap.size w w' := by
  have HV2 := Lib.hid hv2
  have HV := Lib.hid hv
  have OKC := Lib.hid (csOk_of hv.2)
  have OKZ := Lib.hid (csOk_of hv2.2)
  obtain ⟨n, hn⟩ : ∃ n, bs.length = n := ⟨_, rfl⟩
  obtain ⟨m, hm⟩ : ∃ n, ls.length = n := ⟨_, rfl⟩
  have HN := Lib.hid hn
  have HM := Lib.hid hm
  rw [hn] at h2 h65 hl
  rw [hm] at hl
  have d1 : decide ((n : Int) < 2) = false := decide_eq_false (by omega)
  have d2 : decide (65 < (n : Int)) = false := decide_eq_false (by omega)
  have w1 : IntKind.i64.wrap ((n : Int) - 1) = (m : Int) := by rw [show (n : Int) - 1 = (m : Int) by omega]; exact IntWalk.i64_in _ (by omega)
  have z1 : ¬ ((m : Int) = 0) := by omega
  have z2 : ¬ (m = 0) := by omega
  have y1 : ¬ ((n : Int) = 0) := by omega
  have y2 : ¬ (n = 0) := by omega
  obtain ⟨k, hk, hK⟩ := modAt i m (by omega)
  have nk : (k : Int) < (m : Int) := by omega
  obtain ⟨s, hs, hs0, hs1⟩ : ∃ s, bits .and .i64 way 1 = s ∧ 0 ≤ s ∧ s ≤ 1 := ⟨_, rfl, (andLe _ 1 (by decide)).1, (andLe _ 1 (by decide)).2⟩
  have ws : IntKind.i64.wrap (1 + s) = 1 + s := IntWalk.i64_in _ (by omega)
  obtain ⟨t, ht, ht0, ht1⟩ : ∃ s, bits .and .i64 (way / 2) 1 = s ∧ 0 ≤ s ∧ s ≤ 1 := ⟨_, rfl, (andLe _ 1 (by decide)).1, (andLe _ 1 (by decide)).2⟩
  have wt : IntKind.i64.wrap (1 + s + t) = 1 + s + t := IntWalk.i64_in _ (by omega)
  have WAY := Lib.hid (show 1 + s + t = 1 ∨ 1 + s + t = 2 ∨ 1 + s + t = 3 by omega)
  have DIM := Lib.hid (And.intro h2 (And.intro h65 (And.intro hl (And.intro hk (And.intro hs0 hs1)))))
  clear hv hv2 h2 h65 hl hn hm hs0 hs1 ht0 ht1
  go_enter Tryz.func8, Tryz.ntmps8
  go_wp2_with fail
  refine (StepAwake.awake_any _).mono ?_
  intro e w1 hh
  rcases hh with ⟨rfl, hb⟩
  have B1 := Lib.hid hb
  clear hb
  go_wp2_with fail
  refine (cs_own bs n HN.out v w1 (by have := DIM.out.1; omega) (HV.out.1.below B1.out) HV.out.2).mono ?_
  intro e w2 hh
  rcases hh with ⟨g1, cap1, rfl, ho, hg, hgl, hc, hb⟩
  have B2 := Lib.hid (B1.out.trans (hb.mono B1.out.size))
  have O2 := Lib.hid ho
  have G1 := Lib.hid (And.intro hg hgl)
  have nc1 : (n : Int) ≤ (cap1 : Int) := by omega
  clear hb ho hg hgl hc
  go_wp2_with fail
  refine (cs_own ls m HM.out v2 w2 (by omega) (HV2.out.1.below B2.out) HV2.out.2).mono ?_
  intro e w3 hh
  rcases hh with ⟨g2, cap2, rfl, ho, hg, hgl, hc, hb⟩
  have B3 := Lib.hid (B2.out.trans (hb.mono B2.out.size))
  have B23 := Lib.hid hb
  have O3 := Lib.hid ho
  have O23 := Lib.hid (own_kept O2.out hb)
  have G2 := Lib.hid (And.intro hg hgl)
  have nc2 : (m : Int) ≤ (cap2 : Int) := by omega
  have cz : w3.cell? ⟨g2, k, none⟩ = some (cv (nth ls k)) := by
    rw [O3.out.cellAt k (by omega), List.getElem?_map, nth, List.getD_eq_getElem?_getD, List.getElem?_eq_getElem (by have := HM.out; omega)]; rfl
  have fz : w3.frozen? ⟨g2, k, none⟩ = false := O3.out.frozenAt k
  clear hb ho hg hgl hc
  go_wp2_with fail
  refine (c_any _ _ _).mono ?_
  rintro e w' ⟨rfl, rfl⟩
  go_wp2_with fail
  have SZ : Sl (w3.setCell ⟨g2, k, none⟩ (.complex .f64 9221120237041090560 0)) (.slice (some ⟨g2, 0, none⟩) m cap2) (ls.set k (9221120237041090560, 0)) := by
    have st := (O3.out.stored k (cv (9221120237041090560, 0))).1
    rw [← List.map_set] at st
    exact Sl.of_own (by rw [List.length_set, HM.out]; exact st)
  have SC : Sl (w3.setCell ⟨g2, k, none⟩ (.complex .f64 9221120237041090560 0)) (.slice (some ⟨g1, 0, none⟩) n cap1) bs := Sl.below (Sl.of_own (by rw [HN.out]; exact O2.out)) (B23.out.setCell G2.out.1 _)
  have okz := csOk_set OKZ.out k (9221120237041090560, 0) (by rw [HM.out]; exact DIM.out.2.2.2.1) (by decide)
  have okc := OKC.out
  have BB : Below w.heap.size w (w3.setCell ⟨g2, k, none⟩ (.complex .f64 9221120237041090560 0)) := B3.out.setCell (Nat.le_trans B2.out.size G2.out.1) _
  have fit : fitCode bs.length (ls.set k (9221120237041090560, 0)).length (k : Nat) = 0 := by
    have D := DIM.out
    rw [List.length_set, HM.out, HN.out]
    unfold fitCode
    rw [if_neg (by omega), if_neg (by omega)]
  have ISN : isN (nth (ls.set k (9221120237041090560, 0)) ((k : Nat) : Int).toNat) ∨ ∃ q, q < bs.length ∧ isN (nth bs q) := .inl (by rw [show ((k : Nat) : Int).toNat = k from rfl]; rw [nth_set _ _ _ (by rw [HM.out]; exact DIM.out.2.2.2.1), if_pos rfl]; exact .inl nanWord)
  refine (step_any (1 + s + t) bs (ls.set k (9221120237041090560, 0)) (k : Nat) _ _ _ SC SZ okc okz).mono ?_
  intro e w4 hh
  rcases hh with ⟨x, rfl, h0, h1, hb⟩
  have CODE := Lib.hid (stepCode_ok fit WAY.out)
  have XN := Lib.hid (wayN (h0 CODE.out) ISN)
  have B4 := Lib.hid (BB.trans (hb.mono BB.size))
  rw [CODE.out]
  clear h0 h1 hb SC SZ okc okz BB fit ISN cz fz
  obtain ⟨x1, x2⟩ := x
  by_cases n1 : isNan x1
  · have o1 : FloatKind.f64.format.order x1 x1 = none := order_nan (.inl n1)
    go_wp2_with fail
    refine (num_any _ _).mono ?_
    rintro e w' ⟨rfl, rfl⟩
    go_wp2_with fail
    go_ret
    exact ⟨rfl, B4.out⟩
  · have n2 : isNan x2 := XN.out.resolve_left n1
    have o1 : FloatKind.f64.format.order x1 x1 = some .eq := (order_self x1).2 n1
    have o2 : FloatKind.f64.format.order x2 x2 = none := order_nan (.inl n2)
    go_wp2_with fail
    refine (num_any _ _).mono ?_
    rintro e w' ⟨rfl, rfl⟩
    go_wp2_with fail
    go_ret
    exact ⟨rfl, B4.out⟩
set_option maxRecDepth 100000 in
set_option maxHeartbeats 8000000 in
theorem stepNaN_c0 (bs : List Cpx) (v : Value) (ls : List Cpx) (v2 : Value) (i wh way : Int) (w : World) (hv : BitsAt w v bs ∧ BitsOk bs) (hv2 : BitsAt w v2 ls ∧ BitsOk ls) (h2 : 2 ≤ bs.length) (h65 : bs.length ≤ 65) (hl : ls.length + 1 = bs.length)
    (hb1 : (bits .and .i64 wh 1 == 1) = false) (hb2 : (bits .and .i64 wh 2 == 2) = false) :
    Calls Tryz.prog 8 #[v, v2, .int .i64 i, .int .i64 wh, .int .i64 way] w fun e w' => e = .returned (.bool true) ∧ Below w.heap.size w w' := by
  have HV2 := Lib.hid hv2
  have HV := Lib.hid hv
  have OKC := Lib.hid (csOk_of hv.2)
  have OKZ := Lib.hid (csOk_of hv2.2)
  obtain ⟨n, hn⟩ : ∃ n, bs.length = n := ⟨_, rfl⟩
  obtain ⟨m, hm⟩ : ∃ n, ls.length = n := ⟨_, rfl⟩
  have HN := Lib.hid hn
  have HM := Lib.hid hm
  rw [hn] at h2 h65 hl
  rw [hm] at hl
  have d1 : decide ((n : Int) < 2) = false := decide_eq_false (by omega)
  have d2 : decide (65 < (n : Int)) = false := decide_eq_false (by omega)
  have w1 : IntKind.i64.wrap ((n : Int) - 1) = (m : Int) := by rw [show (n : Int) - 1 = (m : Int) by omega]; exact IntWalk.i64_in _ (by omega)
  have z1 : ¬ ((m : Int) = 0) := by omega
  have z2 : ¬ (m = 0) := by omega
  have y1 : ¬ ((n : Int) = 0) := by omega
  have y2 : ¬ (n = 0) := by omega
  obtain ⟨k, hk, hK⟩ := modAt i m (by omega)
  have nk : (k : Int) < (m : Int) := by omega
  obtain ⟨s, hs, hs0, hs1⟩ : ∃ s, bits .and .i64 way 1 = s ∧ 0 ≤ s ∧ s ≤ 1 := ⟨_, rfl, (andLe _ 1 (by decide)).1, (andLe _ 1 (by decide)).2⟩
  have ws : IntKind.i64.wrap (1 + s) = 1 + s := IntWalk.i64_in _ (by omega)
  obtain ⟨t, ht, ht0, ht1⟩ : ∃ s, bits .and .i64 (way / 2) 1 = s ∧ 0 ≤ s ∧ s ≤ 1 := ⟨_, rfl, (andLe _ 1 (by decide)).1, (andLe _ 1 (by decide)).2⟩
  have wt : IntKind.i64.wrap (1 + s + t) = 1 + s + t := IntWalk.i64_in _ (by omega)
  obtain ⟨j, hj, hJ⟩ := modAt (wh / 4) n (by omega)
  have nj : (j : Int) < (n : Int) := by omega
  have WAY := Lib.hid (show 1 + s + t = 1 ∨ 1 + s + t = 2 ∨ 1 + s + t = 3 by omega)
  have HJ := Lib.hid hj
  have DIM := Lib.hid (And.intro h2 (And.intro h65 (And.intro hl (And.intro hk (And.intro hs0 hs1)))))
  clear hv hv2 h2 h65 hl hn hm hs0 hs1 ht0 ht1
  go_enter Tryz.func8, Tryz.ntmps8
  go_wp2_with fail
  refine (StepAwake.awake_any _).mono ?_
  intro e w1 hh
  rcases hh with ⟨rfl, hb⟩
  have B1 := Lib.hid hb
  clear hb
  go_wp2_with fail
  refine (cs_own bs n HN.out v w1 (by have := DIM.out.1; omega) (HV.out.1.below B1.out) HV.out.2).mono ?_
  intro e w2 hh
  rcases hh with ⟨g1, cap1, rfl, ho, hg, hgl, hc, hb⟩
  have B2 := Lib.hid (B1.out.trans (hb.mono B1.out.size))
  have O2 := Lib.hid ho
  have G1 := Lib.hid (And.intro hg hgl)
  have nc1 : (n : Int) ≤ (cap1 : Int) := by omega
  clear hb ho hg hgl hc
  go_wp2_with fail
  refine (cs_own ls m HM.out v2 w2 (by omega) (HV2.out.1.below B2.out) HV2.out.2).mono ?_
  intro e w3 hh
  rcases hh with ⟨g2, cap2, rfl, ho, hg, hgl, hc, hb⟩
  have B3 := Lib.hid (B2.out.trans (hb.mono B2.out.size))
  have B23 := Lib.hid hb
  have O3 := Lib.hid ho
  have O23 := Lib.hid (own_kept O2.out hb)
  have G2 := Lib.hid (And.intro hg hgl)
  have nc2 : (m : Int) ≤ (cap2 : Int) := by omega
  have cz : w3.cell? ⟨g1, j, none⟩ = some (cv (nth bs j)) := by
    rw [O23.out.cellAt j (by omega), List.getElem?_map, nth, List.getD_eq_getElem?_getD, List.getElem?_eq_getElem (by have := HN.out; omega)]; rfl
  have fz : w3.frozen? ⟨g1, j, none⟩ = false := O23.out.frozenAt j
  clear hb ho hg hgl hc
  go_wp2_with fail
  refine (c_any _ _ _).mono ?_
  rintro e w' ⟨rfl, rfl⟩
  go_wp2_with fail
  have SC : Sl (w3.setCell ⟨g1, j, none⟩ (.complex .f64 9221120237041090560 0)) (.slice (some ⟨g1, 0, none⟩) n cap1) (bs.set j (9221120237041090560, 0)) := by
    have st := (O23.out.stored j (cv (9221120237041090560, 0))).1
    rw [← List.map_set] at st
    exact Sl.of_own (by rw [List.length_set, HN.out]; exact st)
  have SZ : Sl (w3.setCell ⟨g1, j, none⟩ (.complex .f64 9221120237041090560 0)) (.slice (some ⟨g2, 0, none⟩) m cap2) ls := by
    rcases (Sl.of_own (by rw [HM.out]; exact O3.out) : Sl w3 (.slice (some ⟨g2, 0, none⟩) m cap2) ls) with ⟨h, _⟩ | ⟨b, off, cap, he, h1, h2⟩
    · cases h
    · cases he
      refine .inr ⟨_, _, _, rfl, h1, fun i hi => ?_⟩
      rw [← h2 i hi]
      refine World.cell?_of_block ?_
      exact (Wr.set (w := w3) (b := g1) (o := j) (lo := 0) (hi := j + 1) _ (by omega) (by omega)).block g2 G2.out.2 (by have := G1.out.2; have := G2.out.1; omega)
  have okc := csOk_set OKC.out j (9221120237041090560, 0) (by rw [HN.out]; exact HJ.out) (by decide)
  have okz := OKZ.out
  have BB : Below w.heap.size w (w3.setCell ⟨g1, j, none⟩ (.complex .f64 9221120237041090560 0)) := B3.out.setCell (Nat.le_trans B1.out.size G1.out.1) _
  have fit : fitCode (bs.set j (9221120237041090560, 0)).length ls.length (k : Nat) = 0 := by
    have D := DIM.out
    rw [List.length_set, HM.out, HN.out]
    unfold fitCode
    rw [if_neg (by omega), if_neg (by omega)]
  have ISN : isN (nth ls ((k : Nat) : Int).toNat) ∨ ∃ q, q < (bs.set j (9221120237041090560, 0)).length ∧ isN (nth (bs.set j (9221120237041090560, 0)) q) := .inr ⟨j, by rw [List.length_set, HN.out]; exact HJ.out, by rw [nth_set _ _ _ (by rw [HN.out]; exact HJ.out), if_pos rfl]; exact .inl nanWord⟩
  refine (step_any (1 + s + t) (bs.set j (9221120237041090560, 0)) ls (k : Nat) _ _ _ SC SZ okc okz).mono ?_
  intro e w4 hh
  rcases hh with ⟨x, rfl, h0, h1, hb⟩
  have CODE := Lib.hid (stepCode_ok fit WAY.out)
  have XN := Lib.hid (wayN (h0 CODE.out) ISN)
  have B4 := Lib.hid (BB.trans (hb.mono BB.size))
  rw [CODE.out]
  clear h0 h1 hb SC SZ okc okz BB fit ISN cz fz
  obtain ⟨x1, x2⟩ := x
  by_cases n1 : isNan x1
  · have o1 : FloatKind.f64.format.order x1 x1 = none := order_nan (.inl n1)
    go_wp2_with fail
    refine (num_any _ _).mono ?_
    rintro e w' ⟨rfl, rfl⟩
    go_wp2_with fail
    go_ret
    exact ⟨rfl, B4.out⟩
  · have n2 : isNan x2 := XN.out.resolve_left n1
    have o1 : FloatKind.f64.format.order x1 x1 = some .eq := (order_self x1).2 n1
    have o2 : FloatKind.f64.format.order x2 x2 = none := order_nan (.inl n2)
    go_wp2_with fail
    refine (num_any _ _).mono ?_
    rintro e w' ⟨rfl, rfl⟩
    go_wp2_with fail
    go_ret
    exact ⟨rfl, B4.out⟩
set_option maxRecDepth 100000 in
set_option maxHeartbeats 8000000 in
theorem stepNaN_z1 (bs : List Cpx) (v : Value) (ls : List Cpx) (v2 : Value) (i wh way : Int) (w : World) (hv : BitsAt w v bs ∧ BitsOk bs) (hv2 : BitsAt w v2 ls ∧ BitsOk ls) (h2 : 2 ≤ bs.length) (h65 : bs.length ≤ 65) (hl : ls.length + 1 = bs.length)
    (hb1 : (bits .and .i64 wh 1 == 1) = true) (hb2 : (bits .and .i64 wh 2 == 2) = true) :
    Calls Tryz.prog 8 #[v, v2, .int .i64 i, .int .i64 wh, .int .i64 way] w fun e w' => e = .returned (.bool true) ∧ Below w.heap.size w w' := by
  have HV2 := Lib.hid hv2
  have HV := Lib.hid hv
  have OKC := Lib.hid (csOk_of hv.2)
  have OKZ := Lib.hid (csOk_of hv2.2)
  obtain ⟨n, hn⟩ : ∃ n, bs.length = n := ⟨_, rfl⟩
  obtain ⟨m, hm⟩ : ∃ n, ls.length = n := ⟨_, rfl⟩
  have HN := Lib.hid hn
  have HM := Lib.hid hm
  rw [hn] at h2 h65 hl
  rw [hm] at hl
  have d1 : decide ((n : Int) < 2) = false := decide_eq_false (by omega)
  have d2 : decide (65 < (n : Int)) = false := decide_eq_false (by omega)
  have w1 : IntKind.i64.wrap ((n : Int) - 1) = (m : Int) := by rw [show (n : Int) - 1 = (m : Int) by omega]; exact IntWalk.i64_in _ (by omega)
  have z1 : ¬ ((m : Int) = 0) := by omega
  have z2 : ¬ (m = 0) := by omega
  have y1 : ¬ ((n : Int) = 0) := by omega
  have y2 : ¬ (n = 0) := by omega
  obtain ⟨k, hk, hK⟩ := modAt i m (by omega)
  have nk : (k : Int) < (m : Int) := by omega
  obtain ⟨s, hs, hs0, hs1⟩ : ∃ s, bits .and .i64 way 1 = s ∧ 0 ≤ s ∧ s ≤ 1 := ⟨_, rfl, (andLe _ 1 (by decide)).1, (andLe _ 1 (by decide)).2⟩
  have ws : IntKind.i64.wrap (1 + s) = 1 + s := IntWalk.i64_in _ (by omega)
  obtain ⟨t, ht, ht0, ht1⟩ : ∃ s, bits .and .i64 (way / 2) 1 = s ∧ 0 ≤ s ∧ s ≤ 1 := ⟨_, rfl, (andLe _ 1 (by decide)).1, (andLe _ 1 (by decide)).2⟩
  have wt : IntKind.i64.wrap (1 + s + t) = 1 + s + t := IntWalk.i64_in _ (by omega)
  have WAY := Lib.hid (show 1 + s + t = 1 ∨ 1 + s + t = 2 ∨ 1 + s + t = 3 by omega)
  have DIM := Lib.hid (And.intro h2 (And.intro h65 (And.intro hl (And.intro hk (And.intro hs0 hs1)))))
  clear hv hv2 h2 h65 hl hn hm hs0 hs1 ht0 ht1
  go_enter Tryz.func8, Tryz.ntmps8
  go_wp2_with fail
  refine (StepAwake.awake_any _).mono ?_
  intro e w1 hh
  rcases hh with ⟨rfl, hb⟩
  have B1 := Lib.hid hb
  clear hb
  go_wp2_with fail
  refine (cs_own bs n HN.out v w1 (by have := DIM.out.1; omega) (HV.out.1.below B1.out) HV.out.2).mono ?_
  intro e w2 hh
  rcases hh with ⟨g1, cap1, rfl, ho, hg, hgl, hc, hb⟩
  have B2 := Lib.hid (B1.out.trans (hb.mono B1.out.size))
  have O2 := Lib.hid ho
  have G1 := Lib.hid (And.intro hg hgl)
  have nc1 : (n : Int) ≤ (cap1 : Int) := by omega
  clear hb ho hg hgl hc
  go_wp2_with fail
  refine (cs_own ls m HM.out v2 w2 (by omega) (HV2.out.1.below B2.out) HV2.out.2).mono ?_
  intro e w3 hh
  rcases hh with ⟨g2, cap2, rfl, ho, hg, hgl, hc, hb⟩
  have B3 := Lib.hid (B2.out.trans (hb.mono B2.out.size))
  have B23 := Lib.hid hb
  have O3 := Lib.hid ho
  have O23 := Lib.hid (own_kept O2.out hb)
  have G2 := Lib.hid (And.intro hg hgl)
  have nc2 : (m : Int) ≤ (cap2 : Int) := by omega
  have cz : w3.cell? ⟨g2, k, none⟩ = some (cv (nth ls k)) := by
    rw [O3.out.cellAt k (by omega), List.getElem?_map, nth, List.getD_eq_getElem?_getD, List.getElem?_eq_getElem (by have := HM.out; omega)]; rfl
  have fz : w3.frozen? ⟨g2, k, none⟩ = false := O3.out.frozenAt k
  clear hb ho hg hgl hc
  go_wp2_with fail
  refine (c_any _ _ _).mono ?_
  rintro e w' ⟨rfl, rfl⟩
  go_wp2_with fail
  refine (c_any _ _ _).mono ?_
  rintro e w' ⟨rfl, rfl⟩
  go_wp2_with fail
  have SZ : Sl (w3.setCell ⟨g2, k, none⟩ (.complex .f64 0 9221120237041090560)) (.slice (some ⟨g2, 0, none⟩) m cap2) (ls.set k (0, 9221120237041090560)) := by
    have st := (O3.out.stored k (cv (0, 9221120237041090560))).1
    rw [← List.map_set] at st
    exact Sl.of_own (by rw [List.length_set, HM.out]; exact st)
  have SC : Sl (w3.setCell ⟨g2, k, none⟩ (.complex .f64 0 9221120237041090560)) (.slice (some ⟨g1, 0, none⟩) n cap1) bs := Sl.below (Sl.of_own (by rw [HN.out]; exact O2.out)) (B23.out.setCell G2.out.1 _)
  have okz := csOk_set OKZ.out k (0, 9221120237041090560) (by rw [HM.out]; exact DIM.out.2.2.2.1) (by decide)
  have okc := OKC.out
  have BB : Below w.heap.size w (w3.setCell ⟨g2, k, none⟩ (.complex .f64 0 9221120237041090560)) := B3.out.setCell (Nat.le_trans B2.out.size G2.out.1) _
  have fit : fitCode bs.length (ls.set k (0, 9221120237041090560)).length (k : Nat) = 0 := by
    have D := DIM.out
    rw [List.length_set, HM.out, HN.out]
    unfold fitCode
    rw [if_neg (by omega), if_neg (by omega)]
  have ISN : isN (nth (ls.set k (0, 9221120237041090560)) ((k : Nat) : Int).toNat) ∨ ∃ q, q < bs.length ∧ isN (nth bs q) := .inl (by rw [show ((k : Nat) : Int).toNat = k from rfl]; rw [nth_set _ _ _ (by rw [HM.out]; exact DIM.out.2.2.2.1), if_pos rfl]; exact .inr nanWord)
  refine (step_any (1 + s + t) bs (ls.set k (0, 9221120237041090560)) (k : Nat) _ _ _ SC SZ okc okz).mono ?_
  intro e w4 hh
  rcases hh with ⟨x, rfl, h0, h1, hb⟩
  have CODE := Lib.hid (stepCode_ok fit WAY.out)
  have XN := Lib.hid (wayN (h0 CODE.out) ISN)
  have B4 := Lib.hid (BB.trans (hb.mono BB.size))
  rw [CODE.out]
  clear h0 h1 hb SC SZ okc okz BB fit ISN cz fz
  obtain ⟨x1, x2⟩ := x
  by_cases n1 : isNan x1
  · have o1 : FloatKind.f64.format.order x1 x1 = none := order_nan (.inl n1)
    go_wp2_with fail
    refine (num_any _ _).mono ?_
    rintro e w' ⟨rfl, rfl⟩
    go_wp2_with fail
    go_ret
    exact ⟨rfl, B4.out⟩
  · have n2 : isNan x2 := XN.out.resolve_left n1
    have o1 : FloatKind.f64.format.order x1 x1 = some .eq := (order_self x1).2 n1
    have o2 : FloatKind.f64.format.order x2 x2 = none := order_nan (.inl n2)
    go_wp2_with fail
    refine (num_any _ _).mono ?_
    rintro e w' ⟨rfl, rfl⟩
    go_wp2_with fail
    go_ret
    exact ⟨rfl, B4.out⟩
set_option maxRecDepth 100000 in
set_option maxHeartbeats 8000000 in
theorem stepNaN_c1 (bs : List Cpx) (v : Value) (ls : List Cpx) (v2 : Value) (i wh way : Int) (w : World) (hv : BitsAt w v bs ∧ BitsOk bs) (hv2 : BitsAt w v2 ls ∧ BitsOk ls) (h2 : 2 ≤ bs.length) (h65 : bs.length ≤ 65) (hl : ls.length + 1 = bs.length)
    (hb1 : (bits .and .i64 wh 1 == 1) = true) (hb2 : (bits .and .i64 wh 2 == 2) = false) :
    Calls Tryz.prog 8 #[v, v2, .int .i64 i, .int .i64 wh, .int .i64 way] w fun e w' => e = .returned (.bool true) ∧ Below w.heap.size w w' := by
  have HV2 := Lib.hid hv2
  have HV := Lib.hid hv
  have OKC := Lib.hid (csOk_of hv.2)
  have OKZ := Lib.hid (csOk_of hv2.2)
  obtain ⟨n, hn⟩ : ∃ n, bs.length = n := ⟨_, rfl⟩
  obtain ⟨m, hm⟩ : ∃ n, ls.length = n := ⟨_, rfl⟩
  have HN := Lib.hid hn
  have HM := Lib.hid hm
  rw [hn] at h2 h65 hl
  rw [hm] at hl
  have d1 : decide ((n : Int) < 2) = false := decide_eq_false (by omega)
  have d2 : decide (65 < (n : Int)) = false := decide_eq_false (by omega)
  have w1 : IntKind.i64.wrap ((n : Int) - 1) = (m : Int) := by rw [show (n : Int) - 1 = (m : Int) by omega]; exact IntWalk.i64_in _ (by omega)
  have z1 : ¬ ((m : Int) = 0) := by omega
  have z2 : ¬ (m = 0) := by omega
  have y1 : ¬ ((n : Int) = 0) := by omega
  have y2 : ¬ (n = 0) := by omega
  obtain ⟨k, hk, hK⟩ := modAt i m (by omega)
  have nk : (k : Int) < (m : Int) := by omega
  obtain ⟨s, hs, hs0, hs1⟩ : ∃ s, bits .and .i64 way 1 = s ∧ 0 ≤ s ∧ s ≤ 1 := ⟨_, rfl, (andLe _ 1 (by decide)).1, (andLe _ 1 (by decide)).2⟩
  have ws : IntKind.i64.wrap (1 + s) = 1 + s := IntWalk.i64_in _ (by omega)
  obtain ⟨t, ht, ht0, ht1⟩ : ∃ s, bits .and .i64 (way / 2) 1 = s ∧ 0 ≤ s ∧ s ≤ 1 := ⟨_, rfl, (andLe _ 1 (by decide)).1, (andLe _ 1 (by decide)).2⟩
  have wt : IntKind.i64.wrap (1 + s + t) = 1 + s + t := IntWalk.i64_in _ (by omega)
  obtain ⟨j, hj, hJ⟩ := modAt (wh / 4) n (by omega)
  have nj : (j : Int) < (n : Int) := by omega
  have WAY := Lib.hid (show 1 + s + t = 1 ∨ 1 + s + t = 2 ∨ 1 + s + t = 3 by omega)
  have HJ := Lib.hid hj
  have DIM := Lib.hid (And.intro h2 (And.intro h65 (And.intro hl (And.intro hk (And.intro hs0 hs1)))))
  clear hv hv2 h2 h65 hl hn hm hs0 hs1 ht0 ht1
  go_enter Tryz.func8, Tryz.ntmps8
  go_wp2_with fail
  refine (StepAwake.awake_any _).mono ?_
  intro e w1 hh
  rcases hh with ⟨rfl, hb⟩
  have B1 := Lib.hid hb
  clear hb
  go_wp2_with fail
  refine (cs_own bs n HN.out v w1 (by have := DIM.out.1; omega) (HV.out.1.below B1.out) HV.out.2).mono ?_
  intro e w2 hh
  rcases hh with ⟨g1, cap1, rfl, ho, hg, hgl, hc, hb⟩
  have B2 := Lib.hid (B1.out.trans (hb.mono B1.out.size))
  have O2 := Lib.hid ho
  have G1 := Lib.hid (And.intro hg hgl)
  have nc1 : (n : Int) ≤ (cap1 : Int) := by omega
  clear hb ho hg hgl hc
  go_wp2_with fail
  refine (cs_own ls m HM.out v2 w2 (by omega) (HV2.out.1.below B2.out) HV2.out.2).mono ?_
  intro e w3 hh
  rcases hh with ⟨g2, cap2, rfl, ho, hg, hgl, hc, hb⟩
  have B3 := Lib.hid (B2.out.trans (hb.mono B2.out.size))
  have B23 := Lib.hid hb
  have O3 := Lib.hid ho
  have O23 := Lib.hid (own_kept O2.out hb)
  have G2 := Lib.hid (And.intro hg hgl)
  have nc2 : (m : Int) ≤ (cap2 : Int) := by omega
  have cz : w3.cell? ⟨g1, j, none⟩ = some (cv (nth bs j)) := by
    rw [O23.out.cellAt j (by omega), List.getElem?_map, nth, List.getD_eq_getElem?_getD, List.getElem?_eq_getElem (by have := HN.out; omega)]; rfl
  have fz : w3.frozen? ⟨g1, j, none⟩ = false := O23.out.frozenAt j
  clear hb ho hg hgl hc
  go_wp2_with fail
  refine (c_any _ _ _).mono ?_
  rintro e w' ⟨rfl, rfl⟩
  go_wp2_with fail
  refine (c_any _ _ _).mono ?_
  rintro e w' ⟨rfl, rfl⟩
  go_wp2_with fail
  have SC : Sl (w3.setCell ⟨g1, j, none⟩ (.complex .f64 0 9221120237041090560)) (.slice (some ⟨g1, 0, none⟩) n cap1) (bs.set j (0, 9221120237041090560)) := by
    have st := (O23.out.stored j (cv (0, 9221120237041090560))).1
    rw [← List.map_set] at st
    exact Sl.of_own (by rw [List.length_set, HN.out]; exact st)
  have SZ : Sl (w3.setCell ⟨g1, j, none⟩ (.complex .f64 0 9221120237041090560)) (.slice (some ⟨g2, 0, none⟩) m cap2) ls := by
    rcases (Sl.of_own (by rw [HM.out]; exact O3.out) : Sl w3 (.slice (some ⟨g2, 0, none⟩) m cap2) ls) with ⟨h, _⟩ | ⟨b, off, cap, he, h1, h2⟩
    · cases h
    · cases he
      refine .inr ⟨_, _, _, rfl, h1, fun i hi => ?_⟩
      rw [← h2 i hi]
      refine World.cell?_of_block ?_
      exact (Wr.set (w := w3) (b := g1) (o := j) (lo := 0) (hi := j + 1) _ (by omega) (by omega)).block g2 G2.out.2 (by have := G1.out.2; have := G2.out.1; omega)
  have okc := csOk_set OKC.out j (0, 9221120237041090560) (by rw [HN.out]; exact HJ.out) (by decide)
  have okz := OKZ.out
  have BB : Below w.heap.size w (w3.setCell ⟨g1, j, none⟩ (.complex .f64 0 9221120237041090560)) := B3.out.setCell (Nat.le_trans B1.out.size G1.out.1) _
  have fit : fitCode (bs.set j (0, 9221120237041090560)).length ls.length (k : Nat) = 0 := by
    have D := DIM.out
    rw [List.length_set, HM.out, HN.out]
    unfold fitCode
    rw [if_neg (by omega), if_neg (by omega)]
  have ISN : isN (nth ls ((k : Nat) : Int).toNat) ∨ ∃ q, q < (bs.set j (0, 9221120237041090560)).length ∧ isN (nth (bs.set j (0, 9221120237041090560)) q) := .inr ⟨j, by rw [List.length_set, HN.out]; exact HJ.out, by rw [nth_set _ _ _ (by rw [HN.out]; exact HJ.out), if_pos rfl]; exact .inr nanWord⟩
  refine (step_any (1 + s + t) (bs.set j (0, 9221120237041090560)) ls (k : Nat) _ _ _ SC SZ okc okz).mono ?_
  intro e w4 hh
  rcases hh with ⟨x, rfl, h0, h1, hb⟩
  have CODE := Lib.hid (stepCode_ok fit WAY.out)
  have XN := Lib.hid (wayN (h0 CODE.out) ISN)
  have B4 := Lib.hid (BB.trans (hb.mono BB.size))
  rw [CODE.out]
  clear h0 h1 hb SC SZ okc okz BB fit ISN cz fz
  obtain ⟨x1, x2⟩ := x
  by_cases n1 : isNan x1
  · have o1 : FloatKind.f64.format.order x1 x1 = none := order_nan (.inl n1)
    go_wp2_with fail
    refine (num_any _ _).mono ?_
    rintro e w' ⟨rfl, rfl⟩
    go_wp2_with fail
    go_ret
    exact ⟨rfl, B4.out⟩
  · have n2 : isNan x2 := XN.out.resolve_left n1
    have o1 : FloatKind.f64.format.order x1 x1 = some .eq := (order_self x1).2 n1
    have o2 : FloatKind.f64.format.order x2 x2 = none := order_nan (.inl n2)
    go_wp2_with fail
    refine (num_any _ _).mono ?_
    rintro e w' ⟨rfl, rfl⟩
    go_wp2_with fail
    go_ret
    exact ⟨rfl, B4.out⟩
end Go.Proofs.YtokmommlabdcdaaGreat
