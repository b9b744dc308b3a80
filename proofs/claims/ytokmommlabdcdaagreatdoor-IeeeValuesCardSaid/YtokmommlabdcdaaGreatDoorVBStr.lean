/- Contract of surdbig's Int.String: the numeral. -/
import Derived.Test.YtokmommlabdcdaaGreatDoorVBig7
import Derived.Test.YtokmommlabdcdaaGreatDoorVBig11
import Derived.Test.YtokmommlabdcdaaGreatDoorVSetStr
import Derived.Lib.AppendIntMem
import Derived.Lib.ItoaLen
import Derived.Laws.IdiomStrings
set_option linter.unusedVariables false
set_option linter.unusedSimpArgs false
set_option linter.unusedVariables false
set_option linter.unusedSimpArgs false
namespace Go.Proofs.YtokmommlabdcdaaGreatDoor
open Wd Fl Go.RowKit Dec
def lenOf : Value → Nat
  | .slice _ n _ => n
  | _ => 0
theorem infoB : (Tryz.prog.info? 5).map (fun i => (i.zero, i.size, i.bytes)) = some (some (.int .u8 0), 1, 1) := by kernel_rfl
abbrev bcs (O : List UInt8) : List Value := Lib.byteCells O
theorem bcs_snoc (O : List UInt8) (x : UInt8) : bcs (O ++ [x]) = bcs O ++ [.int .u8 (x.toNat : Int)] := by simp [bcs, Lib.byteCells]
theorem bcs_len (O : List UInt8) : (bcs O).length = O.length := by simp [bcs, Lib.byteCells]
theorem wat_grown {w w' : World} {v so : Value} {l : List Nat} {base n : Nat} {xs : List Value} (h : WAt TW w v l) (ho : w.ownsRow base 5 1 so n xs) (g : w.grownBy w' so.ownBlock) : WAt TW w' v l := by
  refine h.keep fun b hb => g.block b hb.lt ?_
  rcases ho.2 with ⟨rfl, _⟩ | ⟨gg, cap, cur, rfl, h1, h2, _⟩
  · intro e; exact nomatch e
  · intro e
    have e2 : gg = b := by simpa [Value.ownBlock] using e.symm
    subst e2
    obtain ⟨cur', h3⟩ := hb
    rw [h2] at h3
    injection h3 with h3
    injection h3 with _ h3 _
    exact absurd h3 (by decide)
/-- the outer loop: the words that are left, the digits that are out -/
def StL (N base : Nat) (w : World) (sa so : Value) (wr : World) : Prop :=
  ∃ (A : List Nat) (O : List UInt8), WAt TW wr sa A ∧ Ok A ∧ Nm A ∧ val A ≤ N ∧ rdig N = O ++ rdig (val A) ∧ wr.ownsRow base 5 1 so O.length (bcs O) ∧ Below base w wr
def InL (N A base : Nat) (w : World) (q : Value) (Q : List Nat) (so sr si : Value) (wr : World) : Prop :=
  ∃ (i : Nat) (r : Int) (O : List UInt8), sr = .int .u32 r ∧ si = .int .i64 i ∧ DigV N A i r O ∧ WAt TW wr q Q ∧ wr.ownsRow base 5 1 so O.length (bcs O) ∧ Below base w wr
theorem own_below8 {w w1 : World} {base n : Nat} {T : TypeId} {v : Value} {xs : List Value} (h : w.ownsRow base T 1 v n xs) (hb : Below w.heap.size w w1) : w1.ownsRow base T 1 v n xs := by
  refine ⟨h.1, ?_⟩
  rcases h.2 with h | ⟨g, cap, cur, h1, h2, h3, h4⟩
  · exact .inl h
  · exact .inr ⟨g, cap, cur, h1, h2, (hb.block g (Array.getElem?_eq_some_iff.1 h3).1).trans h3, h4⟩
theorem own_len {w : World} {base n : Nat} {T : TypeId} {v : Value} {xs : List Value} (h : w.ownsRow base T 1 v n xs) : lenOf v = n := by
  rcases h.2 with ⟨rfl, e⟩ | ⟨g, cap, cur, rfl, _⟩
  · exact e.symm
  · rfl
theorem rlonger {N V : Nat} {O O' : List UInt8} (h0 : V ≠ 0) (h : rdig N = O ++ rdig V) (g : rdig N = O' ++ rdig (V / 1000000000)) : O.length < O'.length := by
  have a := congrArg List.length h
  have b := congrArg List.length g
  rw [List.length_append] at a b
  have := rdig_shorter h0
  omega
theorem ret_str {a b : List UInt8} (h : a = b) : Ending.returned (.string (sv a)) = .returned (.string (sv b)) := by rw [h]
theorem rlen_ok {N : Nat} (h : N < 18446744073709551616) (h0 : N ≠ 0) : (rdig N).length ≤ 30 ∧ 1 ≤ (rdig N).length := by
  have h1 := rdig_len N 20 (by omega)
  have h2 : (rdig N).length ≠ 0 := by rw [rdig_pos h0]; simp
  omega
theorem own_some8 {w : World} {base n : Nat} {v : Value} {xs : List Value} (h : w.ownsRow base 5 1 v n xs) (h0 : 0 < n) : ∃ g cap, v = .slice (some ⟨g, 0, none⟩) n cap ∧ n ≤ cap := by
  rcases h.2 with ⟨_, e⟩ | ⟨g, cap, cur, e, _, _, hc, _⟩
  · omega
  · exact ⟨g, cap, e, hc⟩
theorem own_base {w : World} {base n g cap : Nat} {xs : List Value} (h : w.ownsRow base 5 1 (.slice (some ⟨g, 0, none⟩) n cap) n xs) : base ≤ g := by
  rcases h.2 with ⟨e, _⟩ | ⟨g', cap', cur, e, hb, _⟩
  · cases e
  · injection e with e _ _
    injection e with e
    injection e with e _ _
    omega
theorem rev_at {R : List UInt8} {i j : Nat} (h1 : ¬ j < i) (h2 : ¬ R.length - 1 - j < i) (h3 : j < R.length) : (bcs (revL R i))[j]? = some (.int .u8 (((R.getD j 0).toNat : Nat) : Int)) := by
  have := revL_at h1 h2 h3
  simp [bcs, Lib.byteCells, this, List.getD_eq_getElem?_getD, List.getElem?_eq_getElem h3]
theorem wrapS1 {i : Nat} (h : i < 40) : RowKit.wrap64 ((i : Int) + 1) = ((i + 1 : Nat) : Int) := by rw [w64 _ (by omega) (by omega)]; omega
theorem wrapS2 {k : Nat} (h1 : 1 ≤ k) (h : k < 40) : RowKit.wrap64 ((k : Int) - 1) = ((k - 1 : Nat) : Int) := by rw [w64 _ (by omega) (by omega)]; omega
theorem rv_cell {wx : World} {R : List UInt8} {n g cp base i K j : Nat} (ho : wx.ownsRow base 5 1 (.slice (some ⟨g, 0, none⟩) n cp) n (bcs (revL R i))) (hn : R.length = n) (hK : i + K = n - 1) (hj : i ≤ j) (hj2 : j ≤ K ∧ j < n) :
    wx.cell? ⟨g, j, none⟩ = some (.int .u8 (((R.getD j 0).toNat : Nat) : Int)) := by
  rw [ho.cellAt j (by omega), rev_at (by omega) (by omega) (by omega)]
def RvL (R : List UInt8) (n g cp base : Nat) (w : World) (si sk : Value) (wx : World) : Prop :=
  ∃ i K : Nat, i + K = n - 1 ∧ i ≤ K + 1 ∧ si = .int .i64 i ∧ sk = .int .i64 K ∧ wx.ownsRow base 5 1 (.slice (some ⟨g, 0, none⟩) n cp) n (bcs (revL R i)) ∧ Below base w wx
theorem RvL.next {R : List UInt8} {n g cp base i K : Nat} {w wx : World} {x y : Int} (ho : wx.ownsRow base 5 1 (.slice (some ⟨g, 0, none⟩) n cp) n (bcs (revL R i))) (hb : Below base w wx) (hn : R.length = n) (hK : i + K = n - 1) (hik : i < K) (hx : (((R.getD i 0).toNat : Nat) : Int) = x) (hy : (((R.getD K 0).toNat : Nat) : Int) = y) (hg : base ≤ g) :
    RvL R n g cp base w (.int .i64 ((i + 1 : Nat) : Int)) (.int .i64 ((K - 1 : Nat) : Int)) ((wx.setCell ⟨g, i, none⟩ (.int .u8 y)).setCell ⟨g, K, none⟩ (.int .u8 x)) := by
  refine ⟨i + 1, K - 1, by omega, by omega, rfl, rfl, ?_, (hb.setCell hg _).setCell hg _⟩
  have s1 := (ho.stored i (.int .u8 y)).1
  have s2 := (s1.stored K (.int .u8 x)).1
  have e : R.length - 1 - i = K := by omega
  have st := revL_step (O := R) (i := i) (by omega)
  rw [e] at st
  rw [← st]
  unfold bcs Lib.byteCells at *
  rw [List.map_set, List.map_set, hx, hy]
  exact s2
theorem cv_bytes {wx : World} {R : List UInt8} {n g cp base i : Nat} (ho : wx.ownsRow base 5 1 (.slice (some ⟨g, 0, none⟩) n cp) n (bcs (revL R i))) (h : revL R i = R.reverse) (hn : R.length = n) :
    (convert 98 9 (.slice (some ⟨g, 0, none⟩) n cp)).run Tryz.prog wx = .ok (.string (sv R.reverse)) wx := by
  have c := run_convert_bytes_back (P := Tryz.prog) wx 98 9 5 ⟨g, 0, none⟩ cp R.reverse Tryz.underlying98 Tryz.underlying5 Tryz.underlying9 (fun j hj => by
    rw [h] at ho
    rw [Lib.add_plain, Nat.zero_add, ho.cellAt j (by simpa [hn] using hj)]
    unfold bcs Lib.byteCells
    rw [List.getElem?_map, List.getElem?_eq_getElem hj]; rfl)
  rw [List.length_reverse, hn] at c
  exact c
set_option maxRecDepth 100000 in
set_option maxHeartbeats 4000000 in
theorem str_any (bx ox : Nat) (n : Int) (w : World) (hx : IntAt TW w ⟨bx, ox, none⟩ n) (h0 : n ≠ 0) (hn : n.natAbs < 18446744073709551616) :
    Calls Tryz.prog 103 #[.pointer (some ⟨bx, ox, none⟩)] w fun e w' => e = .returned (.string (sv (Lib.itoa n))) ∧ Below w.heap.size w w' := by
  obtain ⟨i0, hi0, hz0, hz1, hz2⟩ := info_parts infoW
  obtain ⟨j0, hj0, hy0, hy1, hy2⟩ := info_parts infoB
  obtain ⟨neg, a, cap, l, h1, h2, H3, OK, NM, HN, HE, HK, N1⟩ := IntAt.open hx
  have hv : val l = n.natAbs := by rw [HE.out, sgn_abs]
  have hl0 : l.length ≠ 0 := by intro e; have : l = [] := List.eq_nil_of_length_eq_zero e; subst this; simp [val] at hv; omega
  obtain ⟨N, hN⟩ : ∃ N, val l = N := ⟨_, rfl⟩
  have HV := Lib.hid hN
  have HNb : Hid (N < 18446744073709551616 ∧ N ≠ 0) := Lib.hid (by omega)
  have HL0 : Hid (l.length ≤ 1000) := Lib.hid (by have := HK.out 64 (by unfold bl; exact blen_of_lt (by simpa using hn)); omega)
  have IT : Hid (sv (Lib.itoa n) = sv (if neg then 45 :: (rdig N).reverse else (rdig N).reverse)) := Lib.hid (by
    congr 1
    rw [rdig_rev (by omega)]
    have e := HE.out
    unfold sgn at e
    rw [hN] at e
    cases neg
    · simp only [Bool.false_eq_true, if_false] at e ⊢; rw [e]; exact Lib.itoa_nonneg N
    · simp only [if_true] at e ⊢; rw [e]; exact Lib.itoa_neg N (by omega))
  rw [IT.out]
  clear IT hx h0 hn hv hN HE HK HN
  generalize hL : l.length = len at *
  have HL := Lib.hid hL
  clear hL
  have z1 : ((len : Int) == 0) = false := by rw [beq_eq_false_iff_ne]; omega
  have HB : Below w.heap.size w (w.alloc (.cells #[] TW)) := (Below.refl _ _).alloc (Nat.le_refl _) _
  have HW := Lib.hid (H3.out.below HB)
  have HO := Lib.hid (World.ownsRow_lit (base := w.heap.size) (e := TW) (size := 1) w #[] 0 (Nat.le_refl _) (by decide) rfl)
  have q2 : (w.alloc (.cells #[] 64)).cell? ⟨bx, ox + 1, none⟩ = some (.slice a len cap) := (HB.cell (p := ⟨bx, ox + 1, none⟩) N1).trans h2
  have NG := Lib.hid (show ∀ W, Below w.heap.size w W → W.cell? ⟨bx, ox, none⟩ = some (.bool neg) from fun W hb => (hb.cell (p := ⟨bx, ox, none⟩) N1).trans h1)
  clear HB h1 H3
  go_enter Tryz.func103, Tryz.ntmps103
  go_wp2_with (at_builtin; refine wpList_clone (by rfl) (.tmp 17) (.tmp 21) 58 (by rfl) TW i0 _ Tryz.underlying58 hi0 hz0 hz1 hz2 rfl w.heap.size (.slice (some ⟨w.heap.size, 0, none⟩) 0 0) (by rfl) HO.out (.slice a len cap) l (by rfl) HW.out (by have := HL0.out; have := HL.out; omega) (by simp) ?_; intro v' w1 hw1 hg1; have hb1 := Lib.hid (clone_below0 hg1); have hw1' := Lib.hid hw1; clear hw1 hg1)
  clear q2 h2
  go_loopw [3, 4] (fun sa so wr => StL N w.heap.size w sa so wr) (fun _ so _ => 30 - lenOf so)
  case atStart => exact ⟨l, [], hw1'.out, OK.out, NM.out, by rw [HV.out]; exact Nat.le_refl _, by rw [HV.out]; rfl, own_nil _ _ _ _, hb1.out⟩
  case round =>
    obtain ⟨A, O, ha, oa, na, hle, hd, ho, hb⟩ := hrel
    obtain ⟨aa, ca, rfl⟩ := ha.slice
    have HA := Lib.hid ha; have OA := Lib.hid oa; have NA := Lib.hid na; have HD := Lib.hid hd; have O0 := Lib.hid ho; have B := Lib.hid hb
    have LB : Hid (O.length ≤ 20) := Lib.hid (by
      have h1 := rdig_len N 20 (by have := HNb.out.1; omega)
      rw [hd, List.length_append] at h1; omega)
    clear ha oa na hd ho hb
    by_cases hA : A = []
    · subst hA
      have e0 : decide (0 < ([] : List Nat).length) = false := rfl
      have DN : Hid (rdig N = O) := Lib.hid (by have := HD.out; simpa [val, rdig_zero] using this)
      have G := NG.out _ B.out
      cases neg
      · have RL : Hid (O.length ≤ 31 ∧ 1 ≤ O.length) := Lib.hid (by have h := rlen_ok HNb.out.1 HNb.out.2; rw [DN.out] at h; exact ⟨Nat.le_succ_of_le h.1, h.2⟩)
        obtain ⟨g, cp, rfl, hcp⟩ := own_some8 O0.out (by have := RL.out; omega)
        obtain ⟨nn, hnn⟩ : ∃ nn, O.length = nn := ⟨_, rfl⟩
        rw [hnn] at O0 RL
        have NN := Lib.hid hnn
        have cpI : (nn : Int) ≤ (cp : Int) := by omega
        have WN : Hid (RowKit.wrap64 ((nn : Int) - 1) = ((nn - 1 : Nat) : Int)) := Lib.hid (wrapS2 RL.out.2 (Nat.lt_of_le_of_lt RL.out.1 (by decide)))
        go_wp2_with fail
        have RW := Lib.hid (show RvL O nn g cp w.heap.size w (.int .i64 0) (.int .i64 ((nn - 1 : Nat) : Int)) wr from ⟨0, nn - 1, by omega, by omega, rfl, rfl, by rw [revL_zero]; exact O0.out, B.out⟩)
        go_loopw [8, 9] (fun si sk wx => RvL O nn g cp w.heap.size w si sk wx) (fun si _ _ => 40 - (intOf si).toNat)
        case atStart => (try rw [WN.out]); exact RW.out
        case round =>
          obtain ⟨i, K, hK, hK1, rfl, rfl, ho, hb⟩ := hrel
          rename World => wx
          have OX := Lib.hid ho
          have BX := Lib.hid hb
          clear ho hb
          by_cases hik : i < K
          · have f1 : decide ((i : Int) < (K : Int)) = true := decide_eq_true (by omega)
            have iI : (i : Int) < (nn : Int) := by have := RL.out; omega
            have kI : (K : Int) < (nn : Int) := by have := RL.out; omega
            obtain ⟨x, hx⟩ : ∃ x : Int, (((O.getD i 0).toNat : Nat) : Int) = x := ⟨_, rfl⟩
            obtain ⟨y, hy⟩ : ∃ y : Int, (((O.getD K 0).toNat : Nat) : Int) = y := ⟨_, rfl⟩
            have k1 : wx.cell? ⟨g, i, none⟩ = some (.int .u8 x) := by rw [← hx]; exact rv_cell OX.out NN.out hK (by omega) (by omega)
            have k2 : wx.cell? ⟨g, K, none⟩ = some (.int .u8 y) := by rw [← hy]; exact rv_cell OX.out NN.out hK (by omega) (by omega)
            have g1 := OX.out.frozenAt i
            have g2 := OX.out.frozenAt K
            have NX := Lib.hid (show RvL O nn g cp w.heap.size w (.int .i64 ((i + 1 : Nat) : Int)) (.int .i64 ((K - 1 : Nat) : Int)) ((wx.setCell ⟨g, i, none⟩ (.int .u8 y)).setCell ⟨g, K, none⟩ (.int .u8 x)) from RvL.next OX.out BX.out NN.out hK hik hx hy (own_base O0.out))
            have W1 : Hid (RowKit.wrap64 ((i : Int) + 1) = ((i + 1 : Nat) : Int)) := Lib.hid (wrapS1 (show i < 40 by have := RL.out; omega))
            have W2 : Hid (RowKit.wrap64 ((K : Int) - 1) = ((K - 1 : Nat) : Int)) := Lib.hid (wrapS2 (show 1 ≤ K by omega) (show K < 40 by have := RL.out; omega))
            clear hx hy
            go_wp2_with fail
            go_roundw
            case rel => (try rw [W1.out, W2.out]); exact NX.out
            case measure => (try rw [W1.out]); have := RL.out; simp only [intOf]; omega
          · have f1 : decide ((i : Int) < (K : Int)) = false := decide_eq_false (by omega)
            have RD : Hid (revL O i = O.reverse) := Lib.hid (revL_done (by have := NN.out; omega))
            have CV := Lib.hid (cv_bytes OX.out RD.out NN.out)
            have cv0 := CV.out
            go_wp2_with fail
            go_ret
            exact ⟨ret_str (by rw [DN.out]), BX.out⟩
      · go_wp2_with (at_builtin; refine wpList_append_own _ rfl _ _ 98 rfl w.heap.size 5 j0 (.int .u8 0) 1 1 Tryz.underlying98 hj0 hy0 hy1 hy2 rfl (by decide) _ O.length _ rfl (O0.out.alloc _) ⟨_, 0, none⟩ 1 1 [.int .u8 45] rfl rfl (World.news_of_block (cs := #[.int .u8 45]) (t := 5) (fr := (0, 0)) (heap_alloc_new _ _)) (by simp [Value.oneCell']) (by unfold maxLen; have := LB.out; omega) (by have := LB.out; omega) (by simp; have := B.out.size; omega) ?_; intro v' w9 hown1 hgrow _; have B9 := Lib.hid ((B.out.alloc B.out.size _).grown hgrow (by simp; have := B.out.size; omega) (own_ge O0.out)); have O9 : Hid (w9.ownsRow w.heap.size 5 1 v' (O ++ [45]).length (bcs (O ++ [45]))) := Lib.hid (by rw [bcs_snoc, List.length_append]; exact hown1); clear hown1 hgrow; have RL : Hid ((O ++ [45]).length ≤ 31 ∧ 1 ≤ (O ++ [45]).length) := Lib.hid (by have h := rlen_ok HNb.out.1 HNb.out.2; rw [DN.out] at h; rw [List.length_append]; simp; have := LB.out; omega); obtain ⟨g, cp, rfl, hcp⟩ := own_some8 O9.out (by have := RL.out; omega); obtain ⟨nn, hnn⟩ : ∃ nn, (O ++ [45]).length = nn := ⟨_, rfl⟩; rw [hnn] at O9 RL ⊢; have NN := Lib.hid hnn; have cpI : (nn : Int) ≤ (cp : Int) := by omega)
        have WN : Hid (RowKit.wrap64 ((nn : Int) - 1) = ((nn - 1 : Nat) : Int)) := Lib.hid (wrapS2 RL.out.2 (Nat.lt_of_le_of_lt RL.out.1 (by decide)))
        have RW := Lib.hid (show RvL (O ++ [45]) nn g cp w.heap.size w (.int .i64 0) (.int .i64 ((nn - 1 : Nat) : Int)) w9 from ⟨0, nn - 1, by omega, by omega, rfl, rfl, by rw [revL_zero]; exact O9.out, B9.out⟩)
        go_loopw [8, 9] (fun si sk wx => RvL (O ++ [45]) nn g cp w.heap.size w si sk wx) (fun si _ _ => 40 - (intOf si).toNat)
        case atStart => (try rw [WN.out]); exact RW.out
        case round =>
          obtain ⟨i, K, hK, hK1, rfl, rfl, ho, hb⟩ := hrel
          rename World => wx
          have OX := Lib.hid ho
          have BX := Lib.hid hb
          clear ho hb
          by_cases hik : i < K
          · have f1 : decide ((i : Int) < (K : Int)) = true := decide_eq_true (by omega)
            have iI : (i : Int) < (nn : Int) := by have := RL.out; omega
            have kI : (K : Int) < (nn : Int) := by have := RL.out; omega
            obtain ⟨x, hx⟩ : ∃ x : Int, ((((O ++ [45]).getD i 0).toNat : Nat) : Int) = x := ⟨_, rfl⟩
            obtain ⟨y, hy⟩ : ∃ y : Int, ((((O ++ [45]).getD K 0).toNat : Nat) : Int) = y := ⟨_, rfl⟩
            have k1 : wx.cell? ⟨g, i, none⟩ = some (.int .u8 x) := by rw [← hx]; exact rv_cell OX.out NN.out hK (by omega) (by omega)
            have k2 : wx.cell? ⟨g, K, none⟩ = some (.int .u8 y) := by rw [← hy]; exact rv_cell OX.out NN.out hK (by omega) (by omega)
            have g1 := OX.out.frozenAt i
            have g2 := OX.out.frozenAt K
            have NX := Lib.hid (show RvL (O ++ [45]) nn g cp w.heap.size w (.int .i64 ((i + 1 : Nat) : Int)) (.int .i64 ((K - 1 : Nat) : Int)) ((wx.setCell ⟨g, i, none⟩ (.int .u8 y)).setCell ⟨g, K, none⟩ (.int .u8 x)) from RvL.next OX.out BX.out NN.out hK hik hx hy (own_base O9.out))
            have W1 : Hid (RowKit.wrap64 ((i : Int) + 1) = ((i + 1 : Nat) : Int)) := Lib.hid (wrapS1 (show i < 40 by have := RL.out; omega))
            have W2 : Hid (RowKit.wrap64 ((K : Int) - 1) = ((K - 1 : Nat) : Int)) := Lib.hid (wrapS2 (show 1 ≤ K by omega) (show K < 40 by have := RL.out; omega))
            clear hx hy
            go_wp2_with fail
            go_roundw
            case rel => (try rw [W1.out, W2.out]); exact NX.out
            case measure => (try rw [W1.out]); have := RL.out; simp only [intOf]; omega
          · have f1 : decide ((i : Int) < (K : Int)) = false := decide_eq_false (by omega)
            have RD : Hid (revL (O ++ [45]) i = (O ++ [45]).reverse) := Lib.hid (revL_done (by have := NN.out; omega))
            have CV := Lib.hid (cv_bytes OX.out RD.out NN.out)
            have cv0 := CV.out
            go_wp2_with fail
            go_ret
            exact ⟨ret_str (by rw [← DN.out]), BX.out⟩
    · have hAl : 0 < A.length := List.length_pos_iff.2 hA
      have e0 : decide (0 < A.length) = true := decide_eq_true hAl
      have av0 : val A ≠ 0 := by have := NA.out.pos hA; omega
      have SM := Lib.hid (small_any _ A 1000000000 wr HA.out OA.out (by have := length_le NA.out (k := 2) (by have := HNb.out.1; exact Nat.lt_of_le_of_lt hle (Nat.lt_of_lt_of_le this (by decide))); omega) (by decide) (by decide))
      have ML := Lib.hid (fun O' (h : rdig N = O' ++ rdig (val A / 1000000000)) => rlonger av0 HD.out h)
      have DS := Lib.hid (DigV.start HD.out)
      generalize A.length = m at *
      obtain ⟨V, hV⟩ : ∃ V, val A = V := ⟨_, rfl⟩
      rw [hV] at SM DS ML hle
      have VLE := Lib.hid hle
      clear hA hAl av0 hV hle
      go_wp2_with fail
      refine SM.out.mono ?_
      intro e w2 h2
      rcases h2 with ⟨vq, Q, rfl, hq, okq, nmq, hvq, hbq⟩
      have HQ := Lib.hid hq; have OQ := Lib.hid okq; have NQ := Lib.hid nmq; have VQ := Lib.hid hvq
      have O2 := Lib.hid (own_below8 O0.out hbq)
      have B2 := Lib.hid (B.out.trans (hbq.mono B.out.size))
      obtain ⟨qa, qc, rfl⟩ := hq.slice
      clear hq okq nmq hvq hbq
      go_wp2_with fail
      go_loopw [4, 6, 7] (fun so sr si wr => InL N V w.heap.size w (.slice qa Q.length qc) Q so sr si wr) (fun _ _ si _ => 9 - (intOf si).toNat)
      case atStart => exact ⟨0, _, O, rfl, rfl, DS.out, HQ.out, O2.out, B2.out⟩
      case round =>
        obtain ⟨i, r, O', rfl, rfl, hdv, hq, ho, hb⟩ := hrel
        rename World => wr2
        have DV := Lib.hid hdv; have HQ3 := Lib.hid hq; have O3 := Lib.hid ho; have B3 := Lib.hid hb
        obtain ⟨r0, r1⟩ := hdv.bounds
        have i9 := hdv.hi
        have LB3 : Hid (O'.length ≤ 20) := Lib.hid (by
          have h1 := rdig_len N 20 (by have := HNb.out.1; omega)
          rw [hdv.out, List.length_append] at h1; omega)
        have QZ : Q.length = 0 ↔ V / 1000000000 = 0 := by
          rw [← VQ.out]
          constructor
          · intro e; have : Q = [] := List.eq_nil_of_length_eq_zero e; rw [this]; rfl
          · intro e; rw [NQ.out.nil_iff.1 e]; rfl
        clear hdv hq ho hb
        by_cases hc : i < 9 ∧ (V / 1000000000 ≠ 0 ∨ 0 < r)
        · obtain ⟨hi, hc2⟩ := hc
          have ST := Lib.hid (DV.out.step hi hc2)
          have f1 : decide ((i : Int) < 9) = true := decide_eq_true (by omega)
          have w1' : RowKit.wrap64 ((i : Int) + 1) = ((i + 1 : Nat) : Int) := wrapS1 (show i < 40 by omega)
          obtain ⟨d, hd⟩ : ∃ d : Int, 48 + r % 10 = d := ⟨_, rfl⟩
          have EL : Hid (bcs (O' ++ [UInt8.ofNat (48 + (r % 10).toNat)]) = bcs O' ++ [.int .u8 d]) := Lib.hid (by
            rw [bcs_snoc, UInt8.toNat_ofNat', ← hd]
            congr 3
            omega)
          have tm : r.tmod 10 = r % 10 := Int.tmod_eq_emod_of_nonneg r0
          have td : r.tdiv 10 = r / 10 := Int.tdiv_eq_ediv_of_nonneg r0
          have dm : d % 4294967296 = d := by omega
          have d8 : d % 256 = d := by omega
          have NX := Lib.hid (show ∀ v' w', WAt TW w' (.slice qa Q.length qc) Q → w'.ownsRow w.heap.size 5 1 v' (O'.length + 1) (bcs O' ++ [.int .u8 d]) → Below w.heap.size w w' → InL N V w.heap.size w (.slice qa Q.length qc) Q v' (.int .u32 (r / 10)) (.int .i64 ((i + 1 : Nat) : Int)) w' from fun v' w' h1 h2 h3 => ⟨i + 1, _, _, rfl, rfl, ST.out, h1, by rw [EL.out, List.length_append]; exact h2, h3⟩)
          have QZ2 := Lib.hid QZ
          clear QZ
          by_cases hq0 : Q.length = 0
          · have hr : decide ((0 : Int) < r) = true := decide_eq_true (by rcases hc2 with h | h; exact absurd (QZ2.out.1 hq0) h; exact h)
            have f2 : decide (0 < Q.length) = false := decide_eq_false (by omega)
            clear hc2 hq0
            go_wp2_with (at_builtin; refine wpList_append_own _ rfl _ _ 98 rfl w.heap.size 5 j0 (.int .u8 0) 1 1 Tryz.underlying98 hj0 hy0 hy1 hy2 rfl (by decide) _ O'.length _ rfl (O3.out.alloc _) ⟨_, 0, none⟩ 1 1 [.int .u8 d] rfl rfl (World.news_of_block (cs := #[.int .u8 d]) (t := 5) (fr := (0, 0)) (heap_alloc_new _ _)) (by simp [Value.oneCell']) (by unfold maxLen; have := LB3.out; omega) (by have := LB3.out; omega) (by simp; have := B3.out.size; omega) ?_; intro v' w1 hown1 hgrow _; have hB := Lib.hid ((B3.out.alloc B3.out.size _).grown hgrow (by simp; have := B3.out.size; omega) (own_ge O3.out)); have HQ4 := Lib.hid (wat_grown (HQ3.out.below (below_alloc wr2 _)) (O3.out.alloc _) hgrow); have NXT := Lib.hid (NX.out _ _ HQ4.out hown1 hB.out); clear hown1 hgrow)
            go_roundw
            case rel => (try rw [w1']); exact NXT.out
            case measure => (try rw [w1']); simp only [intOf]; omega
          · have f2 : decide (0 < Q.length) = true := decide_eq_true (by omega)
            clear hc2 hq0
            go_wp2_with (at_builtin; refine wpList_append_own _ rfl _ _ 98 rfl w.heap.size 5 j0 (.int .u8 0) 1 1 Tryz.underlying98 hj0 hy0 hy1 hy2 rfl (by decide) _ O'.length _ rfl (O3.out.alloc _) ⟨_, 0, none⟩ 1 1 [.int .u8 d] rfl rfl (World.news_of_block (cs := #[.int .u8 d]) (t := 5) (fr := (0, 0)) (heap_alloc_new _ _)) (by simp [Value.oneCell']) (by unfold maxLen; have := LB3.out; omega) (by have := LB3.out; omega) (by simp; have := B3.out.size; omega) ?_; intro v' w1 hown1 hgrow _; have hB := Lib.hid ((B3.out.alloc B3.out.size _).grown hgrow (by simp; have := B3.out.size; omega) (own_ge O3.out)); have HQ4 := Lib.hid (wat_grown (HQ3.out.below (below_alloc wr2 _)) (O3.out.alloc _) hgrow); have NXT := Lib.hid (NX.out _ _ HQ4.out hown1 hB.out); clear hown1 hgrow)
            go_roundw
            case rel => (try rw [w1']); exact NXT.out
            case measure => (try rw [w1']); simp only [intOf]; omega
        · have DN := Lib.hid (DV.out.done (by
            by_cases h : i < 9
            · right
              have h1 : ¬ (V / 1000000000 ≠ 0 ∨ 0 < r) := fun g => hc ⟨h, g⟩
              omega
            · exact .inl h))
          have LG := Lib.hid (ML.out O' DN.out)
          have OUT : Hid (StL N w.heap.size w (.slice qa Q.length qc) u4 wr2) := Lib.hid ⟨Q, O', HQ3.out, OQ.out, NQ.out, by rw [VQ.out]; have := Nat.div_le_self V 1000000000; have := VLE.out; omega, by rw [VQ.out]; exact DN.out, O3.out, B3.out⟩
          have LO := Lib.hid (own_len O3.out)
          have LO0 := Lib.hid (own_len O0.out)
          by_cases h9 : i < 9
          · have f1 : decide ((i : Int) < 9) = true := decide_eq_true (by omega)
            have hq0 : Q.length = 0 := QZ.2 (by
              have h1 : ¬ (V / 1000000000 ≠ 0 ∨ 0 < r) := fun g => hc ⟨h9, g⟩
              omega)
            have hr : decide ((0 : Int) < r) = false := decide_eq_false (fun g => hc ⟨h9, .inr g⟩)
            have f2 : decide (0 < Q.length) = false := decide_eq_false (by omega)
            clear hc QZ hq0
            go_wp2_with fail
            go_roundw
            case rel => exact OUT.out
            case measure => have := LO.out; have := LO0.out; have := LG.out; have := LB3.out; omega
          · have f1 : decide ((i : Int) < 9) = false := decide_eq_false (by omega)
            clear hc QZ
            go_wp2_with fail
            go_roundw
            case rel => exact OUT.out
            case measure => have := LO.out; have := LO0.out; have := LG.out; have := LB3.out; omega
end Go.Proofs.YtokmommlabdcdaaGreatDoor
