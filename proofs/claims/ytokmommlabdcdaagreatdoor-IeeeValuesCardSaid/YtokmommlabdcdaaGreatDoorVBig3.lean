/- Contracts of surdbig's functions on lists of words: sum, less. Contract of surdbig.less. -/
import Derived.Test.YtokmommlabdcdaaGreatDoorVBig1
import Derived.OwnWalk
import Derived.Deep.AppendLies
set_option linter.unusedVariables false
set_option linter.unusedSimpArgs false
set_option linter.unusedVariables false
set_option linter.unusedSimpArgs false
namespace Go.Proofs.YtokmommlabdcdaaGreatDoor
open Wd Fl Go.RowKit
theorem infoW : (Tryz.prog.info? 64).map (fun i => (i.zero, i.size, i.bytes)) = some (some (.int .u32 0), 1, 4) := by kernel_rfl
theorem map_snoc (l : List Nat) (x : Nat) : (l ++ [x]).map wv = l.map wv ++ [wv x] := by rw [List.map_append]; rfl
set_option maxHeartbeats 2000000 in
theorem sum_any (va vb : Value) (la lb : List Nat) (w : World) (ha : WAt TW w va la) (hb : WAt TW w vb lb) (oa : Ok la) (ob : Ok lb) (hl : la.length ≤ 1099511627776) (hl2 : lb.length ≤ 1099511627776) :
    Calls Tryz.prog 91 #[va, vb] w (WRet (val la + val lb) w) := by
  obtain ⟨i0, hi0, hz0, hz1, hz2⟩ := info_parts infoW
  obtain ⟨aa, ca, rfl⟩ := ha.slice
  obtain ⟨ab, cb, rfl⟩ := hb.slice
  have hcase : (¬ (la.length : Int) < (lb.length : Int) ∧ ∃ L S aL cL aS cS, L = la ∧ S = lb ∧ aL = aa ∧ cL = ca ∧ aS = ab ∧ cS = cb ∧ S.length ≤ L.length ∧ L.length ≤ 1099511627776 ∧ WAt TW w (.slice aL L.length cL) L ∧ WAt TW w (.slice aS S.length cS) S ∧ Ok L ∧ Ok S ∧ val la + val lb = val L + val S) ∨
      ((la.length : Int) < (lb.length : Int) ∧ ∃ L S aL cL aS cS, L = lb ∧ S = la ∧ aL = ab ∧ cL = cb ∧ aS = aa ∧ cS = ca ∧ S.length ≤ L.length ∧ L.length ≤ 1099511627776 ∧ WAt TW w (.slice aL L.length cL) L ∧ WAt TW w (.slice aS S.length cS) S ∧ Ok L ∧ Ok S ∧ val la + val lb = val L + val S) := by
    by_cases h : la.length < lb.length
    · exact .inr ⟨by omega, _, _, _, _, _, _, rfl, rfl, rfl, rfl, rfl, rfl, by omega, hl2, hb, ha, ob, oa, Nat.add_comm _ _⟩
    · exact .inl ⟨by omega, _, _, _, _, _, _, rfl, rfl, rfl, rfl, rfl, rfl, by omega, hl, ha, hb, oa, ob, rfl⟩
  clear ha hb oa ob hl hl2
  rcases hcase with ⟨ht, L, S, aL, cL, aS, cS, rfl, rfl, rfl, rfl, rfl, rfl, hll, hlb, hA, hB, oA, oB, hv⟩ | ⟨ht, L, S, aL, cL, aS, cS, rfl, rfl, rfl, rfl, rfl, rfl, hll, hlb, hA, hB, oA, oB, hv⟩
  all_goals
    rw [hv]
    have HA := Lib.hid hA; have HB := Lib.hid hB; have OA := Lib.hid oA; have OB := Lib.hid oB
    clear hv hA hB oA oB
    generalize hL : L.length = m at *
    generalize hS : S.length = n at *
    have HL := Lib.hid hL; have HS := Lib.hid hS
    clear hL hS
    have p1 : (m : Int) ≤ 1099511627776 := by omega
    have p2 : (n : Int) ≤ (m : Int) := by omega
    have HLB := Lib.hid hlb; have HLL := Lib.hid hll
    clear hlb hll
    go_enter Tryz.func91, Tryz.ntmps91
    go_wp2_with (refine wpList_make_own _ rfl _ _ _ rfl w.heap.size TW i0 (.int .u32 0) 1 Tryz.underlying58 hi0 hz0 hz1 .i64 .i64 _ (m + 1) rfl rfl (by omega) (by rw [hz2]; omega) (by unfold maxLen; omega) (Nat.le_refl _) ?_)
    intro w1 hown hgrow
    generalize hG : w.heap.size = G at *
    have hB1 : Below G w w1 := (Below.refl _ _).grown hgrow (by omega) (fun k hk => by cases hk)
    have HG := Lib.hid hG
    clear hgrow hG
    go_wp2_with fail
    go_loopw [5, 6, 7] (fun so sc si wr => ∃ (k c : Nat) (O : List Nat), k ≤ m ∧ si = .int .i64 k ∧ sc = .int .u64 c ∧ c ≤ 1 ∧ so = .slice (some ⟨G, 0, none⟩) k (m + 1) ∧ wr.ownsRow G TW 1 (.slice (some ⟨G, 0, none⟩) k (m + 1)) k (O.map wv) ∧ O.length = k ∧ Ok O ∧ val O + 4294967296 ^ k * c = val (L.take k) + val (S.take k) ∧ Below G w wr) (fun _ _ si _ => m - (intOf si).toNat)
    case atStart => exact ⟨0, 0, [], by omega, rfl, rfl, by omega, rfl, hown, rfl, .nil, by simp [val], hB1⟩
    case round =>
      obtain ⟨k, c, O, hk, rfl, rfl, hc, rfl, ho, hol, oO, hv, hb⟩ := hrel
      have HO := Lib.hid ho; have HOL := Lib.hid hol; have OO := Lib.hid oO; have HV := Lib.hid hv
      clear ho hol oO hv
      by_cases hlt : k < m
      · have hlt' : (k : Int) < (m : Int) := by omega
        obtain ⟨e1, b1, o1, rfl, q1, t1, f1⟩ := wcell HA.out (by have := HL.out; omega)
        have g1 : wr.cell? ⟨b1, o1 + k, none⟩ = some (.int .u32 (L.getD k 0 : Nat)) := (hb.cell (p := ⟨b1, o1 + k, none⟩) (by have := HG.out; have := t1.lt; show b1 < G; omega)).trans (f1 k (by have := HL.out; omega))
        have q1' : (m : Int) ≤ (cL : Int) := by have := HL.out; omega
        have hx := OA.out.get k
        have hy := OB.out.get k
        have sL := val_take_succ' L k
        have sS := val_take_succ' S k
        have stp := sum_step (O := val O) (P := 4294967296 ^ k) (c := c) (x := L.getD k 0) (y := S.getD k 0) HV.out
        have cr := sum_carry hc hx hy
        have hxI : (L.getD k 0 : Int) < 4294967296 := by omega
        have hyI : (S.getD k 0 : Int) < 4294967296 := by omega
        have SL := Lib.hid sL; have SS := Lib.hid sS; have STP := Lib.hid stp; have CR := Lib.hid cr
        have hcI : (c : Int) ≤ 1 := by omega
        clear e1 q1 t1 f1 sL sS stp cr hx hy hc
        by_cases hn : k < n
        · have hn' : (k : Int) < (n : Int) := by omega
          obtain ⟨e2, b2, o2, rfl, q2, t2, f2⟩ := wcell HB.out (by have := HS.out; omega)
          have g2 : wr.cell? ⟨b2, o2 + k, none⟩ = some (.int .u32 (S.getD k 0 : Nat)) := (hb.cell (p := ⟨b2, o2 + k, none⟩) (by have := HG.out; have := t2.lt; show b2 < G; omega)).trans (f2 k (by have := HS.out; omega))
          have q2' : (n : Int) ≤ (cS : Int) := by have := HS.out; omega
          clear e2 q2 t2 f2
          generalize L.getD k 0 = x at *
          generalize S.getD k 0 = y at *
          go_wp2_with (at_builtin; refine wpList_append_fits _ rfl _ _ 58 rfl G TW i0 1 Tryz.underlying58 hi0 hz1 G k (m + 1) (O.map wv) rfl (HO.out.alloc _) ⟨_, 0, none⟩ 1 1 [.int .u32 (((x : Int) + (c : Int) + (y : Int)) % 4294967296)] rfl rfl (World.news_of_block (cs := #[.int .u32 (((x : Int) + (c : Int) + (y : Int)) % 4294967296)]) (t := TW) (fr := (0, 0)) (heap_alloc_new _ _)) (by simp [Value.oneCell']) (by omega) ?_)
          intro w2 ho2 hgr
          have hb2 : Below G w w2 := Below.grown (hb.alloc (by have := HO.out.lt G rfl; omega) _) hgr (by simp; have := HO.out.lt G rfl; omega) (fun k hk => by cases hk; exact Nat.le_refl _)
          have e3 : O.map wv ++ [.int .u32 (((x : Int) + (c : Int) + (y : Int)) % 4294967296)] = (O ++ [(x + c + y) % 4294967296]).map wv := by
            rw [map_snoc]; unfold wv; rw [Int.natCast_emod]; simp only [Int.natCast_add, Int.cast_ofNat_Int]
          rw [e3] at ho2
          have HO2 := Lib.hid ho2; have HB2 := Lib.hid hb2
          clear ho2 hb2 hgr e3
          go_wp2_with fail
          go_roundw
          case rel =>
            refine ⟨k + 1, (x + c + y) / 4294967296, O ++ [(x + c + y) % 4294967296], by omega, by go_num, congrArg (Value.int .u64) (by omega), CR.out, rfl, HO2.out, by rw [List.length_append, HOL.out]; rfl, OO.out.snoc (Nat.mod_lt _ (by decide)), ?_, HB2.out⟩
            rw [val_snoc, HOL.out, SL.out, SS.out, pw_succ]
            exact STP.out
          case measure => simp [intOf]; omega
        · have hn' : ¬ (k : Int) < (n : Int) := by omega
          have hy0 : S.getD k 0 = 0 := getD_beyond S k (by have := HS.out; omega)
          rw [hy0] at CR STP SS
          clear hy0 hyI
          generalize L.getD k 0 = x at *
          go_wp2_with (at_builtin; refine wpList_append_fits _ rfl _ _ 58 rfl G TW i0 1 Tryz.underlying58 hi0 hz1 G k (m + 1) (O.map wv) rfl (HO.out.alloc _) ⟨_, 0, none⟩ 1 1 [.int .u32 (((x : Int) + (c : Int)) % 4294967296)] rfl rfl (World.news_of_block (cs := #[.int .u32 (((x : Int) + (c : Int)) % 4294967296)]) (t := TW) (fr := (0, 0)) (heap_alloc_new _ _)) (by simp [Value.oneCell']) (by omega) ?_)
          intro w2 ho2 hgr
          have hb2 : Below G w w2 := Below.grown (hb.alloc (by have := HO.out.lt G rfl; omega) _) hgr (by simp; have := HO.out.lt G rfl; omega) (fun k hk => by cases hk; exact Nat.le_refl _)
          have e3 : O.map wv ++ [.int .u32 (((x : Int) + (c : Int)) % 4294967296)] = (O ++ [(x + c) % 4294967296]).map wv := by
            rw [map_snoc]; unfold wv; rw [Int.natCast_emod]; simp only [Int.natCast_add, Int.cast_ofNat_Int]
          rw [e3] at ho2
          have HO2 := Lib.hid ho2; have HB2 := Lib.hid hb2
          clear ho2 hb2 hgr e3
          go_wp2_with fail
          go_roundw
          case rel =>
            refine ⟨k + 1, (x + c) / 4294967296, O ++ [(x + c) % 4294967296], by omega, by go_num, congrArg (Value.int .u64) (by omega), by have := CR.out; omega, rfl, HO2.out, by rw [List.length_append, HOL.out]; rfl, OO.out.snoc (Nat.mod_lt _ (by decide)), ?_, HB2.out⟩
            rw [val_snoc, HOL.out, SL.out, SS.out, pw_succ]
            have := STP.out
            simp only [Nat.add_zero, Nat.mul_zero] at this ⊢
            exact this
          case measure => simp [intOf]; omega
      · have hge : ¬ (k : Int) < (m : Int) := by omega
        obtain rfl : k = m := by omega
        have hLt : L.take k = L := take_all (by have := HL.out; omega)
        have hSt : S.take k = S := take_all (by have := HS.out; have := HLL.out; omega)
        have hv := HV.out
        rw [hLt, hSt] at hv
        have HVV := Lib.hid hv
        have hcI : (c : Int) ≤ 1 := by omega
        clear hLt hSt hv HV
        go_wp2_with (at_builtin; refine wpList_append_fits _ rfl _ _ 58 rfl G TW i0 1 Tryz.underlying58 hi0 hz1 G k (k + 1) (O.map wv) rfl (HO.out.alloc _) ⟨_, 0, none⟩ 1 1 [wv c] rfl rfl (World.news_of_block (cs := #[wv c]) (t := TW) (fr := (0, 0)) (heap_alloc_new _ _)) (by simp [wv, Value.oneCell']) (by omega) ?_)
        intro w2 ho2 hgr
        have hb2 : Below G w w2 := Below.grown (hb.alloc (by have := HO.out.lt G rfl; omega) _) hgr (by simp; have := HO.out.lt G rfl; omega) (fun k hk => by cases hk; exact Nat.le_refl _)
        rw [← map_snoc] at ho2
        have hw : WAt TW w2 (.slice (some ⟨G, 0, none⟩) (k + 1) (k + 1)) (O ++ [c]) := by
          have e : (O ++ [c]).length = k + 1 := by rw [List.length_append, HOL.out]; rfl
          refine WAt.of_own (base := G) ?_
          rw [e]; exact ho2
        have HW := Lib.hid hw; have HB2 := Lib.hid hb2
        have ok2 : Ok (O ++ [c]) := OO.out.snoc (by omega)
        have OK2 := Lib.hid ok2
        have hval : val (O ++ [c]) = val L + val S := by rw [val_snoc, HOL.out]; exact HVV.out
        have HVAL := Lib.hid hval
        clear ho2 hgr hw hb2 ok2 hval
        go_wp2_with fail
        refine (trimmed_any _ _ _ HW.out OK2.out (by rw [List.length_append, HOL.out]; simp; omega)).mono ?_
        rintro e w3 ⟨v3, l3, rfl, h3, ok3, nm3, hv3, hb3⟩
        go_wp2_with fail
        go_ret
        exact WRet.mk h3 ok3 nm3 (hv3.trans HVAL.out) (by rw [HG.out]; exact HB2.out.trans (hb3.mono (by have := HB2.out.size; have := HG.out; omega)))
end Go.Proofs.YtokmommlabdcdaaGreatDoor
set_option linter.unusedVariables false
set_option linter.unusedSimpArgs false
namespace Go.Proofs.YtokmommlabdcdaaGreatDoor
open Wd Fl Go.RowKit
set_option maxHeartbeats 2000000 in
theorem less_any (va vb : Value) (la lb : List Nat) (w : World) (ha : WAt TW w va la) (hb : WAt TW w vb lb) (oa : Ok la) (ob : Ok lb) (hl : la.length ≤ 1099511627776) (hll : lb.length ≤ la.length) (hle : val lb ≤ val la) :
    Calls Tryz.prog 92 #[va, vb] w (WRet (val la - val lb) w) := by
  obtain ⟨i0, hi0, hz0, hz1, hz2⟩ := info_parts infoW
  obtain ⟨aa, ca, rfl⟩ := ha.slice
  obtain ⟨ab, cb, rfl⟩ := hb.slice
  have HA := Lib.hid ha; have HB := Lib.hid hb; have OA := Lib.hid oa; have OB := Lib.hid ob; have HLE := Lib.hid hle
  clear ha hb oa ob hle
  generalize hL : la.length = m at *
  generalize hS : lb.length = n at *
  have HL := Lib.hid hL; have HS := Lib.hid hS
  clear hL hS
  have p1 : (m : Int) ≤ 1099511627776 := by omega
  have p2 : (n : Int) ≤ (m : Int) := by omega
  have HLB := Lib.hid hl; have HLL := Lib.hid hll
  clear hl hll
  go_enter Tryz.func92, Tryz.ntmps92
  go_wp2_with (refine wpList_make_own _ rfl _ _ _ rfl w.heap.size TW i0 (.int .u32 0) 1 Tryz.underlying58 hi0 hz0 hz1 .i64 .i64 _ m rfl rfl (by omega) (by rw [hz2]; omega) (by unfold maxLen; omega) (Nat.le_refl _) ?_)
  intro w1 hown hgrow
  generalize hG : w.heap.size = G at *
  have hB1 : Below G w w1 := (Below.refl _ _).grown hgrow (by omega) (fun k hk => by cases hk)
  have HG := Lib.hid hG
  clear hgrow hG
  go_wp2_with fail
  go_loopw [5, 6, 7] (fun so sc si wr => ∃ (k c : Nat) (O : List Nat), k ≤ m ∧ si = .int .i64 k ∧ sc = .int .u64 c ∧ c ≤ 1 ∧ so = .slice (some ⟨G, 0, none⟩) k m ∧ wr.ownsRow G TW 1 (.slice (some ⟨G, 0, none⟩) k m) k (O.map wv) ∧ O.length = k ∧ Ok O ∧ val O + val (lb.take k) = val (la.take k) + 4294967296 ^ k * c ∧ Below G w wr) (fun _ _ si _ => m - (intOf si).toNat)
  case atStart => exact ⟨0, 0, [], by omega, rfl, rfl, by omega, rfl, hown, rfl, .nil, by simp [val], hB1⟩
  case round =>
    obtain ⟨k, c, O, hk, rfl, rfl, hc, rfl, ho, hol, oO, hv, hb⟩ := hrel
    have HO := Lib.hid ho; have HOL := Lib.hid hol; have OO := Lib.hid oO; have HV := Lib.hid hv
    clear ho hol oO hv
    by_cases hlt : k < m
    · have hlt' : (k : Int) < (m : Int) := by omega
      obtain ⟨e1, b1, o1, rfl, q1, t1, f1⟩ := wcell HA.out (by have := HL.out; omega)
      have g1 : wr.cell? ⟨b1, o1 + k, none⟩ = some (.int .u32 (la.getD k 0 : Nat)) := (hb.cell (p := ⟨b1, o1 + k, none⟩) (by have := HG.out; have := t1.lt; show b1 < G; omega)).trans (f1 k (by have := HL.out; omega))
      have q1' : (m : Int) ≤ (ca : Int) := by have := HL.out; omega
      have hx := OA.out.get k
      have hy := OB.out.get k
      have sL := val_take_succ' la k
      have sS := val_take_succ' lb k
      have stp := fun b' d hd => less_step (O := val O) (P := 4294967296 ^ k) (b := c) (b' := b') (d := d) (x := la.getD k 0) (y := lb.getD k 0) HV.out hd
      have hxI : (la.getD k 0 : Int) < 4294967296 := by omega
      have hyI : (lb.getD k 0 : Int) < 4294967296 := by omega
      have hxN := hx
      have SL := Lib.hid sL; have SS := Lib.hid sS; have STP := Lib.hid stp
      have hcI : (c : Int) ≤ 1 := by omega
      clear e1 q1 t1 f1 sL sS stp hx hc
      by_cases hn : k < n
      · have hn' : (k : Int) < (n : Int) := by omega
        obtain ⟨e2, b2, o2, rfl, q2, t2, f2⟩ := wcell HB.out (by have := HS.out; omega)
        have g2 : wr.cell? ⟨b2, o2 + k, none⟩ = some (.int .u32 (lb.getD k 0 : Nat)) := (hb.cell (p := ⟨b2, o2 + k, none⟩) (by have := HG.out; have := t2.lt; show b2 < G; omega)).trans (f2 k (by have := HS.out; omega))
        have q2' : (n : Int) ≤ (cb : Int) := by have := HS.out; omega
        clear e2 q2 t2 f2
        generalize la.getD k 0 = x at *
        generalize lb.getD k 0 = y at *
        by_cases hxt : x < c + y
        · have hxt' : (x : Int) < (c : Int) + (y : Int) := by omega
          go_wp2_with (at_builtin; refine wpList_append_fits _ rfl _ _ 58 rfl G TW i0 1 Tryz.underlying58 hi0 hz1 G k m (O.map wv) rfl (HO.out.alloc _) ⟨_, 0, none⟩ 1 1 [.int .u32 ((x : Int) + 4294967296 - ((c : Int) + (y : Int)))] rfl rfl (World.news_of_block (cs := #[.int .u32 ((x : Int) + 4294967296 - ((c : Int) + (y : Int)))]) (t := TW) (fr := (0, 0)) (heap_alloc_new _ _)) (by simp [Value.oneCell']) (by omega) ?_)
          intro w2 ho2 hgr
          have hb2 : Below G w w2 := Below.grown (hb.alloc (by have := HO.out.lt G rfl; omega) _) hgr (by simp; have := HO.out.lt G rfl; omega) (fun k hk => by cases hk; exact Nat.le_refl _)
          have e4 : ((x : Int) + 4294967296 - ((c : Int) + (y : Int))) = ((x + 4294967296 - (c + y) : Nat) : Int) := by omega
          have e3 : O.map wv ++ [.int .u32 ((x : Int) + 4294967296 - ((c : Int) + (y : Int)))] = (O ++ [x + 4294967296 - (c + y)]).map wv := by
            rw [map_snoc, e4]; rfl
          rw [e3] at ho2
          have HO2 := Lib.hid ho2; have HB2 := Lib.hid hb2
          clear ho2 hb2 hgr e3 e4
          go_wp2_with fail
          go_roundw
          case rel =>
            refine ⟨k + 1, 1, O ++ [x + 4294967296 - (c + y)], by omega, by go_num, rfl, by omega, rfl, HO2.out, by rw [List.length_append, HOL.out]; rfl, OO.out.snoc (by omega), ?_, HB2.out⟩
            rw [val_snoc, HOL.out, SL.out, SS.out, pw_succ]
            exact STP.out 1 _ (by omega)
          case measure => simp [intOf]; omega
        · have hxt' : ¬ (x : Int) < (c : Int) + (y : Int) := by omega
          go_wp2_with (at_builtin; refine wpList_append_fits _ rfl _ _ 58 rfl G TW i0 1 Tryz.underlying58 hi0 hz1 G k m (O.map wv) rfl (HO.out.alloc _) ⟨_, 0, none⟩ 1 1 [.int .u32 ((x : Int) - ((c : Int) + (y : Int)))] rfl rfl (World.news_of_block (cs := #[.int .u32 ((x : Int) - ((c : Int) + (y : Int)))]) (t := TW) (fr := (0, 0)) (heap_alloc_new _ _)) (by simp [Value.oneCell']) (by omega) ?_)
          intro w2 ho2 hgr
          have hb2 : Below G w w2 := Below.grown (hb.alloc (by have := HO.out.lt G rfl; omega) _) hgr (by simp; have := HO.out.lt G rfl; omega) (fun k hk => by cases hk; exact Nat.le_refl _)
          have e4 : ((x : Int) - ((c : Int) + (y : Int))) = ((x - (c + y) : Nat) : Int) := by omega
          have e3 : O.map wv ++ [.int .u32 ((x : Int) - ((c : Int) + (y : Int)))] = (O ++ [x - (c + y)]).map wv := by
            rw [map_snoc, e4]; rfl
          rw [e3] at ho2
          have HO2 := Lib.hid ho2; have HB2 := Lib.hid hb2
          clear ho2 hb2 hgr e3 e4
          go_wp2_with fail
          go_roundw
          case rel =>
            refine ⟨k + 1, 0, O ++ [x - (c + y)], by omega, by go_num, rfl, by omega, rfl, HO2.out, by rw [List.length_append, HOL.out]; rfl, OO.out.snoc (by omega), ?_, HB2.out⟩
            rw [val_snoc, HOL.out, SL.out, SS.out, pw_succ]
            exact STP.out 0 _ (by omega)
          case measure => simp [intOf]; omega
      · have hn' : ¬ (k : Int) < (n : Int) := by omega
        have hy0 : lb.getD k 0 = 0 := getD_beyond lb k (by have := HS.out; omega)
        rw [hy0] at STP SS
        clear hy0 hyI hy
        generalize la.getD k 0 = x at *
        by_cases hxt : x < c
        · have hxt' : (x : Int) < (c : Int) := by omega
          go_wp2_with (at_builtin; refine wpList_append_fits _ rfl _ _ 58 rfl G TW i0 1 Tryz.underlying58 hi0 hz1 G k m (O.map wv) rfl (HO.out.alloc _) ⟨_, 0, none⟩ 1 1 [.int .u32 ((x : Int) + 4294967296 - (c : Int))] rfl rfl (World.news_of_block (cs := #[.int .u32 ((x : Int) + 4294967296 - (c : Int))]) (t := TW) (fr := (0, 0)) (heap_alloc_new _ _)) (by simp [Value.oneCell']) (by omega) ?_)
          intro w2 ho2 hgr
          have hb2 : Below G w w2 := Below.grown (hb.alloc (by have := HO.out.lt G rfl; omega) _) hgr (by simp; have := HO.out.lt G rfl; omega) (fun k hk => by cases hk; exact Nat.le_refl _)
          have e4 : ((x : Int) + 4294967296 - (c : Int)) = ((x + 4294967296 - c : Nat) : Int) := by omega
          have e3 : O.map wv ++ [.int .u32 ((x : Int) + 4294967296 - (c : Int))] = (O ++ [x + 4294967296 - c]).map wv := by
            rw [map_snoc, e4]; rfl
          rw [e3] at ho2
          have HO2 := Lib.hid ho2; have HB2 := Lib.hid hb2
          clear ho2 hb2 hgr e3 e4
          go_wp2_with fail
          go_roundw
          case rel =>
            refine ⟨k + 1, 1, O ++ [x + 4294967296 - c], by omega, by go_num, rfl, by omega, rfl, HO2.out, by rw [List.length_append, HOL.out]; rfl, OO.out.snoc (by omega), ?_, HB2.out⟩
            rw [val_snoc, HOL.out, SL.out, SS.out, pw_succ]
            exact STP.out 1 _ (by omega)
          case measure => simp [intOf]; omega
        · have hxt' : ¬ (x : Int) < (c : Int) := by omega
          go_wp2_with (at_builtin; refine wpList_append_fits _ rfl _ _ 58 rfl G TW i0 1 Tryz.underlying58 hi0 hz1 G k m (O.map wv) rfl (HO.out.alloc _) ⟨_, 0, none⟩ 1 1 [.int .u32 ((x : Int) - (c : Int))] rfl rfl (World.news_of_block (cs := #[.int .u32 ((x : Int) - (c : Int))]) (t := TW) (fr := (0, 0)) (heap_alloc_new _ _)) (by simp [Value.oneCell']) (by omega) ?_)
          intro w2 ho2 hgr
          have hb2 : Below G w w2 := Below.grown (hb.alloc (by have := HO.out.lt G rfl; omega) _) hgr (by simp; have := HO.out.lt G rfl; omega) (fun k hk => by cases hk; exact Nat.le_refl _)
          have e4 : ((x : Int) - (c : Int)) = ((x - c : Nat) : Int) := by omega
          have e3 : O.map wv ++ [.int .u32 ((x : Int) - (c : Int))] = (O ++ [x - c]).map wv := by
            rw [map_snoc, e4]; rfl
          rw [e3] at ho2
          have HO2 := Lib.hid ho2; have HB2 := Lib.hid hb2
          clear ho2 hb2 hgr e3 e4
          go_wp2_with fail
          go_roundw
          case rel =>
            refine ⟨k + 1, 0, O ++ [x - c], by omega, by go_num, rfl, by omega, rfl, HO2.out, by rw [List.length_append, HOL.out]; rfl, OO.out.snoc (by omega), ?_, HB2.out⟩
            rw [val_snoc, HOL.out, SL.out, SS.out, pw_succ]
            exact STP.out 0 _ (by omega)
          case measure => simp [intOf]; omega
    · have hge : ¬ (k : Int) < (m : Int) := by omega
      obtain rfl : k = m := by omega
      have hLt : la.take k = la := take_all (by have := HL.out; omega)
      have hSt : lb.take k = lb := take_all (by have := HS.out; have := HLL.out; omega)
      have hv := HV.out
      rw [hLt, hSt] at hv
      have hw : WAt TW wr (.slice (some ⟨G, 0, none⟩) k k) O := by
        refine WAt.of_own (base := G) ?_
        rw [HOL.out]; exact HO.out
      have hlt2 := val_lt OO.out
      rw [HOL.out] at hlt2
      obtain ⟨hval, _⟩ := less_end hv hlt2 HLE.out
      have HW := Lib.hid hw; have HVAL := Lib.hid hval
      clear hLt hSt hv hw hlt2 hval HV
      go_wp2_with fail
      refine (trimmed_any _ _ _ HW.out OO.out (by rw [HOL.out]; omega)).mono ?_
      rintro e w3 ⟨v3, l3, rfl, h3, ok3, nm3, hv3, hb3⟩
      go_wp2_with fail
      go_ret
      exact WRet.mk h3 ok3 nm3 (hv3.trans HVAL.out) (by rw [HG.out]; exact hb.trans (hb3.mono (by have := hb.size; have := HG.out; omega)))
end Go.Proofs.YtokmommlabdcdaaGreatDoor
