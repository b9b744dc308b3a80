/- Contract of surdbig.product where the shorter list has fewer than 48 words. -/
import Derived.Test.YtokmommlabdcdaaGreatDoorVBig3
import Derived.Laws.OwnMore
set_option linter.unusedVariables false
set_option linter.unusedSimpArgs false
set_option linter.unusedVariables false
set_option linter.unusedSimpArgs false
namespace Go.Proofs.YtokmommlabdcdaaGreatDoor
open Wd Fl Go.RowKit
theorem made_words (n : Nat) : (madeCells #[.int .u32 0] n).toList = (List.replicate n 0).map wv := by
  rw [toList_madeCells_one, List.map_replicate]; rfl
/-- the two lists by their lengths -/
theorem longer (la lb : List Nat) : (¬ (la.length : Int) < (lb.length : Int) ∧ lb.length ≤ la.length) ∨ ((la.length : Int) < (lb.length : Int) ∧ la.length ≤ lb.length) := by omega
set_option maxRecDepth 100000 in
set_option maxHeartbeats 4000000 in
theorem product_any (va vb : Value) (la lb : List Nat) (w : World) (ha : WAt TW w va la) (hb : WAt TW w vb lb) (oa : Ok la) (ob : Ok lb) (hl : la.length ≤ 1099511627776) (hl2 : lb.length ≤ 1099511627776) (h48 : la.length < 48 ∨ lb.length < 48) :
    Calls Tryz.prog 79 #[va, vb] w (WRet (val la * val lb) w) := by
  obtain ⟨i0, hi0, hz0, hz1, hz2⟩ := info_parts infoW
  obtain ⟨aa, ca, rfl⟩ := ha.slice
  obtain ⟨ab, cb, rfl⟩ := hb.slice
  have hcase : (¬ (la.length : Int) < (lb.length : Int) ∧ ∃ L S aL cL aS cS, L = la ∧ S = lb ∧ aL = aa ∧ cL = ca ∧ aS = ab ∧ cS = cb ∧ S.length ≤ L.length ∧ S.length < 48 ∧ L.length ≤ 1099511627776 ∧ WAt TW w (.slice aL L.length cL) L ∧ WAt TW w (.slice aS S.length cS) S ∧ Ok L ∧ Ok S ∧ val la * val lb = val L * val S) ∨
      ((la.length : Int) < (lb.length : Int) ∧ ∃ L S aL cL aS cS, L = lb ∧ S = la ∧ aL = ab ∧ cL = cb ∧ aS = aa ∧ cS = ca ∧ S.length ≤ L.length ∧ S.length < 48 ∧ L.length ≤ 1099511627776 ∧ WAt TW w (.slice aL L.length cL) L ∧ WAt TW w (.slice aS S.length cS) S ∧ Ok L ∧ Ok S ∧ val la * val lb = val L * val S) := by
    by_cases h : la.length < lb.length
    · exact .inr ⟨by omega, _, _, _, _, _, _, rfl, rfl, rfl, rfl, rfl, rfl, by omega, by omega, hl2, hb, ha, ob, oa, Nat.mul_comm _ _⟩
    · exact .inl ⟨by omega, _, _, _, _, _, _, rfl, rfl, rfl, rfl, rfl, rfl, by omega, by omega, hl, ha, hb, oa, ob, rfl⟩
  clear ha hb oa ob hl hl2 h48
  rcases hcase with ⟨ht, L, S, aL, cL, aS, cS, rfl, rfl, rfl, rfl, rfl, rfl, hll, h48, hlb, hA, hB, oA, oB, hv⟩ | ⟨ht, L, S, aL, cL, aS, cS, rfl, rfl, rfl, rfl, rfl, rfl, hll, h48, hlb, hA, hB, oA, oB, hv⟩
  all_goals
    rw [hv]
    have HA := Lib.hid hA; have HB := Lib.hid hB; have OA := Lib.hid oA; have OB := Lib.hid oB
    clear hv hA hB oA oB
    generalize hL : L.length = m at *
    generalize hS : S.length = n at *
    have HL := Lib.hid hL; have HS := Lib.hid hS
    have p1 : (m : Int) ≤ 1099511627776 := by omega
    have p2 : (n : Int) ≤ (m : Int) := by omega
    have p3 : (n : Int) < 48 := by omega
    have HLB := Lib.hid hlb; have HLL := Lib.hid hll
    by_cases hn0 : n = 0
    · have hv0 : val L * val S = 0 := by
        have : S = [] := List.eq_nil_of_length_eq_zero (by omega)
        subst this; rfl
      rw [hv0]
      clear hlb hll hL hS hv0 h48
      subst hn0
      go_enter Tryz.func79, Tryz.ntmps79
      go_wp2_with fail
      go_ret
      exact WRet.mk (.inl ⟨rfl, _, _, rfl, fun _ => rfl⟩) .nil .nil rfl (Below.refl _ _)
    · have hn0' : ((n : Int) == 0) = false := by rw [beq_eq_false_iff_ne]; omega
      have p4 : (1 : Int) ≤ (n : Int) := by omega
      have H48 := Lib.hid h48
      clear hlb hll hL hS hn0 h48
      go_enter Tryz.func79, Tryz.ntmps79
      go_wp2_with (refine wpList_make_full _ rfl _ _ _ rfl w.heap.size TW i0 (.int .u32 0) 1 Tryz.underlying58 hi0 hz0 hz1 .i64 .i64 _ _ (m + n) rfl rfl (by omega) (by omega) (by rw [hz2]; have := HLB.out; have := HLL.out; omega) (by unfold maxLen; have := HLB.out; have := HLL.out; omega) (Nat.le_refl _) ?_)
      intro w1 hown hgrow
      rw [made_words] at hown
      generalize hG : w.heap.size = G at *
      have hB1 : Below G w w1 := (Below.refl _ _).grown hgrow (by omega) (fun k hk => by cases hk)
      have HG := Lib.hid hG
      clear hgrow hG
      go_wp2_with fail
      go_loopw [6] (fun sk wr => ∃ (k : Nat) (R : List Nat), k ≤ n ∧ sk = .int .i64 k ∧ R.length = m + n ∧ Ok R ∧ val R = val L * val (S.take k) ∧ (∀ j, m + k ≤ j → R.getD j 0 = 0) ∧ wr.ownsRow G TW 1 (.slice (some ⟨G, 0, none⟩) (m + n) (m + n)) (m + n) (R.map wv) ∧ Below G w wr) (fun sk _ => n - (intOf sk).toNat)
      case atStart => exact ⟨0, List.replicate (m + n) 0, by omega, rfl, List.length_replicate, .replicate _, by rw [val_replicate, List.take_zero]; rfl, fun j _ => by rw [List.getD_eq_getElem?_getD, List.getElem?_replicate]; split <;> rfl, hown, hB1⟩
      case round =>
        obtain ⟨k, R, hk, rfl, hRl, hRo, hRv, hRz, ho, hb⟩ := hrel
        have HO := Lib.hid ho; have HRL := Lib.hid hRl; have HRO := Lib.hid hRo; have HRV := Lib.hid hRv; have HRZ := Lib.hid hRz
        clear ho hRl hRo hRv hRz
        by_cases hlt : k < n
        · have hlt' : (k : Int) < (n : Int) := by omega
          obtain ⟨e2, b2, o2, rfl, q2, t2, f2⟩ := wcell HB.out (by have := HS.out; omega)
          have g2 : wr.cell? ⟨b2, o2 + k, none⟩ = some (.int .u32 (S.getD k 0 : Nat)) := (hb.cell (p := ⟨b2, o2 + k, none⟩) (by have := HG.out; have := t2.lt; show b2 < G; omega)).trans (f2 k (by have := HS.out; omega))
          have q2' : (n : Int) ≤ (cS : Int) := by have := HS.out; omega
          have hx := OB.out.get k
          have sS := val_take_succ' S k
          have hxI : (S.getD k 0 : Int) < 4294967296 := by omega
          have SS := Lib.hid sS; have HX := Lib.hid hx
          clear e2 q2 t2 f2 sS hx
          generalize S.getD k 0 = x at *
          by_cases hx0 : x = 0
          · have hx0' : (((x : Nat) : Int) == 0) = true := by rw [hx0]; rfl
            subst hx0
            go_wp2_with fail
            go_roundw
            case rel => exact ⟨k + 1, R, by omega, by go_num, HRL.out, HRO.out, by rw [SS.out, Nat.mul_zero, Nat.add_zero]; exact HRV.out, fun j hj => HRZ.out j (by omega), HO.out, hb⟩
            case measure => simp [intOf]; omega
          · have hx0' : (((x : Nat) : Int) == 0) = false := by rw [beq_eq_false_iff_ne]; omega
            have hN : ¬ m + n = k := by omega
            have r1 : (k : Int) + (m : Int) + 1 ≤ (m : Int) + (n : Int) := by omega
            have hx1 : ¬ (x : Int) = 0 := by omega
            have r2 : k + m + 1 - k = m + 1 := by omega
            clear hx0
            go_wp2_with fail
            clear r2
            obtain ⟨W1, hW1⟩ : ∃ W1 : World, W1 = wr := ⟨_, rfl⟩
            subst hW1
            have HBW := Lib.hid hb
            clear hb g2
            go_loopw [9, 10] (fun sc si w2 => ∃ (i c : Nat) (Q : List Nat), i ≤ m ∧ si = .int .i64 i ∧ sc = .int .u64 c ∧ c < 4294967296 ∧ Q.length = m + n ∧ Ok Q ∧ val Q + 4294967296 ^ (k + i) * c = val R + 4294967296 ^ k * (val (L.take i) * x) ∧ (∀ j, m + k ≤ j → Q.getD j 0 = 0) ∧ w2.ownsRow G TW 1 (.slice (some ⟨G, 0, none⟩) (m + n) (m + n)) (m + n) (Q.map wv) ∧ Below G w w2) (fun _ si _ => m - (intOf si).toNat)
            case atStart => exact ⟨0, 0, R, by omega, rfl, rfl, by omega, HRL.out, HRO.out, by simp [val], HRZ.out, HO.out, HBW.out⟩
            case round =>
              obtain ⟨i, c, Q, hi, rfl, rfl, hc, hQl, hQo, hQv, hQz, ho, hb⟩ := hrel
              have HQ := Lib.hid ho; have HQL := Lib.hid hQl; have HQO := Lib.hid hQo; have HQV := Lib.hid hQv; have HQZ := Lib.hid hQz
              clear ho hQl hQo hQv hQz
              by_cases him : i < m
              · have him' : (i : Int) < (m : Int) := by omega
                obtain ⟨e1, b1, o1, rfl, q1, t1, f1⟩ := wcell HA.out (by have := HL.out; omega)
                have g1 : wr.cell? ⟨b1, o1 + i, none⟩ = some (.int .u32 (L.getD i 0 : Nat)) := (hb.cell (p := ⟨b1, o1 + i, none⟩) (by have := HG.out; have := t1.lt; show b1 < G; omega)).trans (f1 i (by have := HL.out; omega))
                have q1' : (m : Int) ≤ (cL : Int) := by have := HL.out; omega
                have g3 : wr.cell? ⟨G, k + i, none⟩ = some (.int .u32 (Q.getD (k + i) 0 : Nat)) := by
                  rw [HQ.out.cellAt (k + i) (by omega)]
                  have : k + i < Q.length := by have := HQL.out; omega
                  simp [wv, List.getD_eq_getElem?_getD, this]
                have g4 := HQ.out.frozenAt (k + i)
                have ha := OA.out.get i
                have hr := HQO.out.get (k + i)
                have sL := val_take_succ' L i
                have vs := fun y => val_set Q (k + i) y (by have := HQL.out; omega)
                have hz : ∀ y j, m + k ≤ j → (Q.set (k + i) y).getD j 0 = 0 := fun y j hj => by
                  rw [getD_set _ _ _ _ (by have := HQL.out; omega), if_neg (by omega)]; exact HQZ.out j hj
                have st := fun (N y : Nat) => ((show (wr.drewN N).ownsRow _ _ _ _ _ _ from HQ.out).stored (k + i) (wv y)).1
                have hbs := fun (N y : Nat) => Below.setCell (below_drewN hb N) (p := ⟨G, k + i, none⟩) (Nat.le_refl _) (wv y)
                have HBS := Lib.hid hbs
                have SL := Lib.hid sL; have VS := Lib.hid vs; have HZ := Lib.hid hz; have ST := Lib.hid st
                have hP : L.getD i 0 * x ≤ 4294967295 * 4294967295 := Nat.mul_le_mul (by omega) (by have := HX.out; omega)
                clear e1 q1 t1 f1 sL vs hz st hbs
                generalize L.getD i 0 = a at *
                generalize Q.getD (k + i) 0 = r at *
                have eP : (a : Int) * (x : Int) = ((a * x : Nat) : Int) := by rw [Int.natCast_mul]
                generalize hPd : a * x = P at *
                have HPD := Lib.hid hPd
                have hPI : (P : Int) ≤ 18446744065119617025 := by omega
                have hrI : (r : Int) < 4294967296 := by omega
                have hcI : (c : Int) < 4294967296 := by omega
                have haI : (a : Int) < 4294967296 := by omega
                have HC := Lib.hid hc; have HAI := Lib.hid ha; have HRI := Lib.hid hr
                have r3 : (i : Int) < ((k + m + 1 - k : Nat) : Int) := by omega
                have w1 : IntKind.u64.wrap (P : Int) = (P : Int) := u64w _ (by omega) (by omega)
                have w2 : IntKind.u64.wrap ((P : Int) + (r : Int)) = (P : Int) + (r : Int) := u64w _ (by omega) (by omega)
                have w3 : IntKind.u64.wrap ((P : Int) + (r : Int) + (c : Int)) = (P : Int) + (r : Int) + (c : Int) := u64w _ (by omega) (by omega)
                clear hPd hP hc ha hr
                go_wp2_with fail
                go_quiet (fail)
                clear w1 w2 w3
                go_wp2_with fail
                have e4 : ((P : Int) + (r : Int) + (c : Int)) % 4294967296 = (((P + r + c) % 4294967296 : Nat) : Int) := by omega
                have hl : (Q.set (k + i) ((P + r + c) % 4294967296)).length = m + n := by rw [List.length_set]; exact HQL.out
                go_roundw
                case rel =>
                  refine ⟨i + 1, (P + r + c) / 4294967296, Q.set (k + i) ((P + r + c) % 4294967296), by omega, by go_num, congrArg (Value.int .u64) (by omega), by have := HC.out; have := HRI.out; omega, hl, HQO.out.set (Nat.mod_lt _ (by decide)), ?_, HZ.out _, ?_, ?_⟩
                  · rw [SL.out]
                    exact mul_row HQV.out (by rw [HPD.out]) (VS.out _)
                  · rw [e4, List.map_set]; exact ST.out _ _
                  · rw [e4]; exact HBS.out _ _
                case measure => simp [intOf]; omega
              · have him' : ¬ (i : Int) < (m : Int) := by omega
                obtain rfl : i = m := by omega
                have g3 : wr.cell? ⟨G, k + i, none⟩ = some (.int .u32 ((0 : Nat) : Int)) := by
                  rw [HQ.out.cellAt (k + i) (by omega)]
                  have h1 : k + i < Q.length := by have := HQL.out; omega
                  have h2 := HQZ.out (k + i) (by omega)
                  simp only [List.getD_eq_getElem?_getD, List.getElem?_eq_getElem h1, Option.getD_some] at h2
                  simp [wv, h1, h2]
                have g4 := HQ.out.frozenAt (k + i)
                have st := fun (y : Nat) => (HQ.out.stored (k + i) (wv y)).1
                have hbs := fun (y : Nat) => Below.setCell hb (p := ⟨G, k + i, none⟩) (Nat.le_refl _) (wv y)
                have vs := val_set Q (k + i) c (by have := HQL.out; omega)
                rw [HQZ.out (k + i) (by omega)] at vs
                have hz : ∀ j, i + (k + 1) ≤ j → (Q.set (k + i) c).getD j 0 = 0 := fun j hj => by
                  rw [getD_set _ _ _ _ (by have := HQL.out; omega), if_neg (by omega)]; exact HQZ.out j (by omega)
                have hl : (Q.set (k + i) c).length = i + n := by rw [List.length_set]; exact HQL.out
                have hLt : L.take i = L := take_all (by have := HL.out; omega)
                have hqv := HQV.out
                rw [hLt, HRV.out] at hqv
                have hfin := mul_end hqv vs
                rw [← SS.out] at hfin
                have ST := Lib.hid st; have HBS := Lib.hid hbs; have HZ := Lib.hid hz; have HLQ := Lib.hid hl; have HF := Lib.hid hfin
                have okq := HQO.out.set (j := k + i) (y := c) hc
                have OKQ := Lib.hid okq
                have hcI : (c : Int) < 4294967296 := by omega
                have r3 : (i : Int) < ((k + i + 1 - k : Nat) : Int) := by omega
                clear st hbs vs hz hl hLt hqv hfin okq
                go_wp2_with fail
                go_roundw
                case rel =>
                  refine ⟨k + 1, Q.set (k + i) c, by omega, by go_num, HLQ.out, OKQ.out, HF.out, HZ.out, ?_, HBS.out _⟩
                  rw [List.map_set]; exact ST.out _
                case measure => simp [intOf]; omega
        · have hge : ¬ (k : Int) < (n : Int) := by omega
          obtain rfl : k = n := by omega
          have hSt : S.take k = S := take_all (by have := HS.out; omega)
          have hrv := HRV.out
          rw [hSt] at hrv
          have hw : WAt TW wr (.slice (some ⟨G, 0, none⟩) (m + k) (m + k)) R := by
            refine WAt.of_own (base := G) ?_
            rw [HRL.out]; exact HO.out
          have HW := Lib.hid hw; have HVAL := Lib.hid hrv
          clear hSt hrv hw
          go_wp2_with fail
          refine (trimmed_any _ _ _ HW.out HRO.out (by rw [HRL.out]; have := HLB.out; omega)).mono ?_
          rintro e w3 ⟨v3, l3, rfl, h3, ok3, nm3, hv3, hb3⟩
          go_wp2_with fail
          go_ret
          exact WRet.mk h3 ok3 nm3 (hv3.trans HVAL.out) (by rw [HG.out]; exact hb.trans (hb3.mono (by have := hb.size; have := HG.out; omega)))
end Go.Proofs.YtokmommlabdcdaaGreatDoor
