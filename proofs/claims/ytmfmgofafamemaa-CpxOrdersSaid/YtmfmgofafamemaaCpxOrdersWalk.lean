/- The walk of CpxOrders. -/
import Derived.Test.YtmfmgofafamemaaCpxAwake
import Derived.Test.YtmfmgofafamemaaCs
import Derived.Test.YtmfmgofafamemaaWhole
namespace Go.Proofs.Ytmfmgofafamemaa
open Fl Go.RowKit

theorem and62 (x : Int) : 0 ≤ bits .and .i64 x 4611686018427387903 ∧ bits .and .i64 x 4611686018427387903 ≤ 4611686018427387903 := by
  have h : (BitVec.ofInt 64 x &&& BitVec.ofInt 64 4611686018427387903).toNat ≤ 4611686018427387903 := by
    rw [BitVec.toNat_and]
    exact Nat.and_le_right
  show 0 ≤ IntKind.i64.wrap ((BitVec.ofInt 64 x &&& BitVec.ofInt 64 4611686018427387903).toNat : Int) ∧ IntKind.i64.wrap ((BitVec.ofInt 64 x &&& BitVec.ofInt 64 4611686018427387903).toNat : Int) ≤ 4611686018427387903
  rw [IntKind.wrap_i64]
  omega

set_option maxRecDepth 100000 in
set_option maxHeartbeats 4000000 in
theorem cpxOrders_walk (bs ls : List Cpx) (v v2 : Value) (turn : Int) (w : World) (hv : BitsAt w v bs ∧ BitsOk bs) (hv2 : BitsAt w v2 ls ∧ BitsOk ls) (hturn : -9223372036854775808 ≤ turn) (hturn2 : turn < 9223372036854775808) :
    Calls Try.prog 6 #[v, v2, .int .i64 turn] w fun e w' => e = .returned (.bool true) ∧ Below w.heap.size w w' := by
  obtain ⟨i0, hi0, hz0, hz1, hz2⟩ := info_parts infoC
  obtain ⟨hv, hok⟩ := hv
  have hreach := hok.2
  have ha : ∃ a cap, v = .slice a bs.length cap ∧ (0 < bs.length → ∃ b off, a = some ⟨b, off, none⟩ ∧ bs.length ≤ cap ∧ (∀ i, i < bs.length → w.cell? ⟨b, off + i * 2, none⟩ = some (.int .u64 ((nth bs i).1 : Nat)) ∧ w.cell? ⟨b, off + i * 2 + 1, none⟩ = some (.int .u64 ((nth bs i).2 : Nat)))) := by
    rcases hv with ⟨rfl, a, cap, rfl⟩ | ⟨b, off, cap, rfl, hpos, hcap, hc⟩
    · exact ⟨a, cap, rfl, fun h => by simp at h⟩
    · exact ⟨_, cap, rfl, fun _ => ⟨b, off, rfl, hcap, hc⟩⟩
  obtain ⟨a, cap, rfl, ha⟩ := ha
  have hand : ∃ T : Int, bits .and .i64 turn 4611686018427387903 = T ∧ 0 ≤ T ∧ T ≤ 4611686018427387903 := ⟨_, rfl, and62 turn⟩
  obtain ⟨T, hT, hT0, hT1⟩ := hand
  have HA := Lib.hid ha; have HOK := Lib.hid hok; have HV2 := Lib.hid hv2; have HR := Lib.hid hreach
  clear ha hok hv2 hv hturn hturn2
  generalize hlen : bs.length = len at *
  have HLEN := Lib.hid hlen; clear hlen
  go_enter Try.func6, Try.ntmps6
  go_wp2_with fail
  go_loopw [7, 8, 9, 10] (fun zs re im i wr => ∃ k : Nat, k ≤ len ∧ k ≤ 1048576 ∧ i = .int .i64 k ∧ re = .int .i64 (reS bs k) ∧ im = .int .i64 (imS bs k) ∧ wr.ownsRow w.heap.size 30 1 zs k (((bs.take k).map whC).map cv) ∧ Below w.heap.size w wr) (fun _ _ _ i _ => len - (intOf i).toNat)
  case atStart => exact ⟨0, by omega, by omega, rfl, by simp [reS], by simp [imS], own_nil _ _ _ _, Below.refl _ _⟩
  case round =>
    obtain ⟨k, hk, hk2, rfl, rfl, rfl, hown, hb⟩ := hrel
    by_cases hlt : k < len ∧ k < 1048576
    · obtain ⟨hlt, hlt2⟩ := hlt
      have hlt' : (k : Int) < (len : Int) := by omega
      have hlt2' : (k : Int) < 1048576 := by omega
      obtain ⟨b, off, rfl, hcap, hbs⟩ := HA.out (by omega)
      have hlb : b < w.heap.size := World.block_lt_of_cell? w _ (hbs 0 (by omega)).1
      have hlc : (len : Int) ≤ (cap : Int) := by omega
      have c1 : wr.cell? ⟨b, off + k * 2, none⟩ = some (.int .u64 ((nth bs k).1 : Nat)) := by rw [hb.cell hlb]; exact (hbs k hlt).1
      have c2 : wr.cell? ⟨b, off + k * 2 + 1, none⟩ = some (.int .u64 ((nth bs k).2 : Nat)) := by rw [hb.cell hlb]; exact (hbs k hlt).2
      clear hbs
      have hw64 := BitsOk_nth HOK.out.1 k (by rw [HLEN.out]; exact hlt)
      have W64 := Lib.hid hw64; clear hw64
      go_wp2_with fail
      go_region_held3 (fun w' => w'.cell? ⟨b, off + k * 2, none⟩ = some (.int .u64 ((nth bs k).1 : Nat)) ∧ w'.cell? ⟨b, off + k * 2 + 1, none⟩ = some (.int .u64 ((nth bs k).2 : Nat)))
        (first | go_keep)
        ((first
          | (go_at_call 23; (with_reducible refine (whole_any (nth bs k).1 W64.out.1 _).mono ?_); rintro e w' ⟨rfl, rfl⟩)
          | (go_at_call 23; (with_reducible refine (whole_any (nth bs k).2 W64.out.2 _).mono ?_); rintro e w' ⟨rfl, rfl⟩)))
      clear c1 c2
      have hc1 := fun W => conv_isI (wh_isI (nth bs k).1) (by have := whI_bound (nth bs k).1; omega) W
      have hc2 := fun W => conv_isI (wh_isI (nth bs k).2) (by have := whI_bound (nth bs k).2; omega) W
      obtain ⟨s1, s2⟩ := sums_bound bs k
      have b1 := whI_bound (nth bs k).1
      have b2 := whI_bound (nth bs k).2
      have q1 : -8796093022208 ≤ reS bs k ∧ reS bs k ≤ 8796093022208 := by omega
      have q2 : -8796093022208 ≤ imS bs k ∧ imS bs k ≤ 8796093022208 := by omega
      have q3 : -8388608 ≤ whI (nth bs k).1 ∧ whI (nth bs k).1 ≤ 8388608 := by omega
      have q4 : -8388608 ≤ whI (nth bs k).2 ∧ whI (nth bs k).2 ≤ 8388608 := by omega
      have e1 := reS_succ bs k (by rw [HLEN.out]; exact hlt)
      have e2 := imS_succ bs k (by rw [HLEN.out]; exact hlt)
      have e3 : ((bs.take (k + 1)).map whC).map cv = ((bs.take k).map whC).map cv ++ [cv (whC (nth bs k))] := by
        rw [List.take_succ_eq_append_getElem (by rw [HLEN.out]; exact hlt), List.map_append, List.map_append]
        have : nth bs k = bs[k]'(by rw [HLEN.out]; exact hlt) := by simp [nth, List.getD_eq_getElem?_getD, HLEN.out, hlt]
        rw [this]; rfl
      have E1 := Lib.hid e1; have E2 := Lib.hid e2; have E3 := Lib.hid e3
      clear s1 s2 b1 b2 e1 e2 e3
      go_wp2_with (at_builtin; refine wpList_append_own _ rfl _ _ 22 rfl w.heap.size 30 i0 (.complex .f64 0 0) 1 16 Try.underlying22 hi0 hz0 hz1 hz2 rfl (by decide) _ k _ rfl ((hown.alloc _).drew) ⟨wr.heap.size, 0, none⟩ 1 1 [cv (whC (nth bs k))] rfl rfl (World.news_of_block (cs := #[cv (whC (nth bs k))]) (t := 30) (fr := (0, 0)) (heap_alloc_new wr _)) (by simp [cv, Value.oneCell']) (by unfold maxLen; omega) (by omega) (by simp; have := hb.size; omega) ?_; intro v' w1 hown1 hgrow _; have hB : Below w.heap.size w w1 := ((hb.alloc hb.size _).drew).grown hgrow (by simp; have := hb.size; omega) (own_ge hown); have HB := Lib.hid hB; have HO := Lib.hid hown1; clear hB hown1 hgrow)
      go_roundw
      case rel => exact ⟨k + 1, by omega, by omega, by go_num, by rw [E1.out], by rw [E2.out], by rw [E3.out]; exact HO.out, HB.out⟩
      case measure => simp [intOf]; omega
    · have hcond : ¬ ((k : Int) < (len : Int)) ∨ ((k : Int) < (len : Int) ∧ ¬ ((k : Int) < 1048576)) := by omega
      have hI := intL_take bs k
      obtain ⟨s1, s2⟩ := sums_bound bs k
      have hZ : ((bs.take k).map whC).length = k := by rw [List.length_map, List.length_take, HLEN.out]; omega
      generalize hZd : (bs.take k).map whC = Z at *
      generalize reS bs k = R at *
      generalize imS bs k = I at *
      clear hZd HA HOK HLEN HR
      have hR : R.natAbs < 2 ^ 63 ∧ I.natAbs < 2 ^ 63 := by omega
      obtain ⟨q, hq⟩ : ∃ q : Nat, (k = 0 ∧ q = 0) ∨ (0 < k ∧ q < k ∧ T % (k : Int) = (q : Int)) := by
        by_cases h0 : k = 0
        · exact ⟨0, .inl ⟨h0, rfl⟩⟩
        · have h1 := Int.emod_nonneg T (b := (k : Int)) (by omega)
          have h2 := Int.emod_lt_of_pos T (b := (k : Int)) (by omega)
          exact ⟨(T % (k : Int)).toNat, .inr ⟨by omega, by omega, by omega⟩⟩
      obtain ⟨za, zc, rfl⟩ : ∃ za zc, u7 = .slice za k zc := by
        have := own_slice (zs := Z) (by rw [hZ]; exact hown)
        rw [hZ] at this; exact this
      have HZ := Lib.hid hZ; have HI := Lib.hid hI; have HR := Lib.hid hR; have HOWN := Lib.hid hown; have HB := Lib.hid hb; have HT := Lib.hid hT
      clear hZ hI s1 s2 hR hown hb hlt
      obtain ⟨W1, hW1⟩ : ∃ W1 : World, W1 = wr := ⟨_, rfl⟩
      subst hW1
      have hcase : (¬ ((k : Int) < (len : Int)) ∧ ¬ ((0 : Int) < (k : Int)) ∧ True) ∨ (¬ ((k : Int) < (len : Int)) ∧ 0 < k ∧ T % (k : Int) = (q : Int)) ∨ ((k : Int) < (len : Int) ∧ ¬ ((k : Int) < 1048576) ∧ 0 < k ∧ T % (k : Int) = (q : Int)) := by
        rcases hcond with h | ⟨h, h'⟩ <;> rcases hq with ⟨rfl, rfl⟩ | ⟨g0, g1, g2⟩
        · exact .inl ⟨h, by omega, trivial⟩
        · exact .inr (.inl ⟨h, g0, g2⟩)
        · exfalso; omega
        · exact .inr (.inr ⟨h, h', g0, g2⟩)
      have hqk : 0 < k → q < k := by omega
      have HQ := Lib.hid hqk; clear hqk hq hcond
      rcases hcase with ⟨hcond, hk0, _⟩ | ⟨hcond, hk0, hmod⟩ | ⟨hcond, hcond2, hk0, hmod⟩
      all_goals
        have hT := HT.out
        go_wp2_with fail
        clear hT
        (try clear hmod)
        (try clear hcond2)
        go_loopw [13, 14] (fun ov i w2 => ∃ j : Nat, j ≤ Z.length ∧ i = .int .i64 j ∧ w2.ownsRow W1.heap.size 30 1 ov j (((rotL Z q).take j).map cv) ∧ Below W1.heap.size W1 w2) (fun _ i _ => Z.length - (intOf i).toNat)
        case atStart => exact ⟨0, by omega, rfl, own_nil _ _ _ _, Below.refl _ _⟩
        case round =>
          obtain ⟨j, hj, rfl, hown2, hb2⟩ := hrel
          by_cases hjl : j < Z.length
          · have hjk : j < k := by rw [← HZ.out]; exact hjl
            first
            | (exfalso; omega)
            | (
              have hqk := HQ.out (by omega)
              obtain ⟨g, zc', he, hzc, hg1, hg2, hcells⟩ := own_pos (zs := Z) (by rw [HZ.out]; exact HOWN.out) (by omega)
              rw [HZ.out] at he
              obtain ⟨rfl, rfl⟩ : za = some ⟨g, 0, none⟩ ∧ zc = zc' := by simpa using he
              obtain ⟨p, hp⟩ : ∃ p : Nat, p = (j + q) % k := ⟨_, rfl⟩
              have hpk : p < k := by rw [hp]; exact Nat.mod_lt _ (by omega)
              have hpe : nth (rotL Z q) j = nth Z p := by rw [nth_rot Z q j (by rw [HZ.out]; exact hqk) hjl, hp, HZ.out]
              have hpm : ((j : Int) + (q : Int)) % (k : Int) = (p : Int) := by rw [hp, Int.natCast_emod, Int.natCast_add]
              have hcell : wr.cell? ⟨g, p, none⟩ = some (.complex .f64 (nth Z p).1 (nth Z p).2) := by
                have := hcells p (by rw [HZ.out]; exact hpk)
                rw [Nat.zero_add] at this
                rw [hb2.cell hg2]; exact this
              have hjk' : (j : Int) < (k : Int) := by omega
              have hqk' : (q : Int) < (k : Int) := by omega
              have hkb : (k : Int) ≤ 1048576 := by omega
              have hpk' : (p : Int) < (k : Int) := by omega
              have hzc2 : (k : Int) ≤ (zc : Int) := by rw [HZ.out] at hzc; omega
              have e3 := map_take_succ (rotL Z q) j (by rw [rotL_length]; exact hjl)
              rw [hpe] at e3
              have E3 := Lib.hid e3; have HC := Lib.hid hcells
              clear e3 hp hpe he hqk hjl hzc hcells
              go_wp2_with (at_builtin; refine wpList_append_own _ rfl _ _ 22 rfl W1.heap.size 30 i0 (.complex .f64 0 0) 1 16 Try.underlying22 hi0 hz0 hz1 hz2 rfl (by decide) _ j _ rfl (hown2.alloc _) ⟨wr.heap.size, 0, none⟩ 1 1 [cv (nth Z p)] rfl rfl (World.news_of_block (cs := #[cv (nth Z p)]) (t := 30) (fr := (0, 0)) (heap_alloc_new wr _)) (by simp [cv, Value.oneCell']) (by unfold maxLen; omega) (by omega) (by simp; have := hb2.size; omega) ?_; intro v' w1 hown1 hgrow _; have hB : Below W1.heap.size W1 w1 := (hb2.alloc hb2.size _).grown hgrow (by simp; have := hb2.size; omega) (own_ge hown2); have HB := Lib.hid hB; have HO := Lib.hid hown1; clear hB hown1 hgrow)
              go_roundw
              case rel => exact ⟨j + 1, by have := HZ.out; omega, by go_num, by rw [E3.out]; exact HO.out, HB.out⟩
              case measure => have := HZ.out; simp [intOf]; omega)
          · obtain rfl : j = Z.length := by omega
            have hl2 : (rotL Z q).take Z.length = rotL Z q := List.take_of_length_le (by rw [rotL_length]; omega)
            rw [hl2] at hown2
            have hl3 : (rotL Z q).length = Z.length := rotL_length Z q
            rw [← hl3] at hown2
            obtain ⟨W2, hW2⟩ : ∃ W2 : World, W2 = wr := ⟨_, rfl⟩
            subst hW2
            have hslz : Sl W2 (.slice za k zc) Z := (Sl.of_own (by rw [HZ.out]; exact HOWN.out)).below hb2
            have hslo : Sl W2 u13 (rotL Z q) := Sl.of_own hown2
            have hro := HI.out.rot q
            have hlen20 : Z.length ≤ 2 ^ 20 := by rw [HZ.out]; omega
            have hsum1 := fun (o : Int) (W : World) (h : Below W2.heap.size W2 W) => sum_any Z _ o W (hslz.below h) (by omega)
            have hsum2 := fun (o : Int) (W : World) (h : Below W2.heap.size W2 W) => sum_any (rotL Z q) _ o W (hslo.below h) (by rw [hl3]; omega)
            have hex1 := fun o x y (h : SumR Z o x y) => h.exact HI.out hlen20
            have hex2 := fun o x y (h : SumR (rotL Z q) o x y) => h.exact hro (by rw [hl3]; exact hlen20)
            have hB2 : Below w.heap.size w W2 := HB.out.trans (hb2.mono HB.out.size)
            have HS1 := Lib.hid hsum1; have HS2 := Lib.hid hsum2; have HE1 := Lib.hid hex1; have HE2 := Lib.hid hex2; have HB2 := Lib.hid hB2; have HL := Lib.hid hl3
            have hjz : ¬ ((Z.length : Int) < (k : Int)) := by rw [HZ.out]; omega
            clear hsum1 hsum2 hex1 hex2 hro hslz hslo hown2 hb2 hB2 hl2 hl3 hlen20 hj
            go_wp2_with fail
            go_loopw [15] (fun o w3 => ∃ m : Nat, 1 ≤ m ∧ m ≤ 4 ∧ o = .int .i64 m ∧ Below W2.heap.size W2 w3) (fun o _ => 4 - (intOf o).toNat)
            case atStart => exact ⟨1, by omega, by omega, rfl, Below.refl _ _⟩
            case round =>
              obtain ⟨m, hm1, hm2, rfl, hb3⟩ := hrel
              by_cases hm3 : m ≤ 3
              · have hm3' : (m : Int) ≤ 3 := by omega
                have HB3 := Lib.hid hb3; clear hb3
                go_wp2_with fail
                refine (HS1.out _ _ HB3.out).mono ?_
                rintro e wa ⟨x, y, code, rfl, hres, hba⟩
                rcases hres with ⟨_, _, rfl, hsr⟩ | ⟨hno, _⟩
                · have hbA : Below W2.heap.size W2 wa := HB3.out.trans (hba.mono HB3.out.size)
                  have HBA := Lib.hid hbA; have HX := Lib.hid hsr; clear hbA hba hsr
                  go_wp2_with fail
                  refine (HS2.out _ _ HBA.out).mono ?_
                  rintro e wb ⟨x2, y2, code, rfl, hres, hbb⟩
                  rcases hres with ⟨_, _, rfl, hsr⟩ | ⟨hno, _⟩
                  · have hbB : Below W2.heap.size W2 wb := HBA.out.trans (hbb.mono HBA.out.size)
                    have i1 := HE1.out _ _ _ HX.out
                    have i2 := HE2.out _ _ _ hsr
                    have q1 := i1.1.eqB i2.1
                    have q2 := i1.2.eqB i2.2
                    have hc1 := fun W => conv_isI i1.1 HR.out.1 W
                    have hc2 := fun W => conv_isI i1.2 HR.out.2 W
                    have HBB := Lib.hid hbB
                    clear i1 i2 hbB hbb hsr
                    go_wp2_with (go_at_call 10; refine (num_any _ _).mono ?_; rintro e w' ⟨rfl, rfl⟩)
                    go_roundw
                    case rel => exact ⟨m + 1, by omega, by omega, by go_num, HBB.out⟩
                    case measure => simp [intOf]; omega
                  · exact absurd ⟨by omega, by omega⟩ hno
                · exact absurd ⟨by omega, by omega⟩ hno
              · have hm3' : ¬ (m : Int) ≤ 3 := by omega
                have hB3 : Below w.heap.size w wr := HB2.out.trans (hb3.mono HB2.out.size)
                obtain ⟨W3, hW3⟩ : ∃ W3 : World, W3 = wr := ⟨_, rfl⟩
                subst hW3
                have HB3 := Lib.hid hB3
                have hv2 : BitsAt W3 v2 ls := HV2.out.1.below hB3
                have hok2 := HV2.out.2
                have hl43 : ls.length * 16 ≤ 140737488351232 := hok2.2
                have hcs := cs_any ls v2 W3 hv2 hok2
                have HCS := Lib.hid hcs
                clear hcs hv2 hB3 hb3 HE1 HE2 HS1 HS2 HI HR HOWN HL HB2 HB HZ HT HQ hm3 hm1 hm2
                go_wp2_with fail
                refine HCS.out.mono ?_
                rintro e W4 ⟨wv, rfl, hown, hb4⟩
                generalize hlsl : ls.length = n at *
                obtain ⟨wa, wc, rfl⟩ : ∃ wa wc, wv = .slice wa n wc := by
                  have := own_slice (zs := ls) (by rw [hlsl]; exact hown)
                  rw [hlsl] at this; exact this
                have hB4 : Below w.heap.size w W4 := HB3.out.trans (hb4.mono HB3.out.size)
                have HB4 := Lib.hid hB4; have HN := Lib.hid hlsl; have HOWN := Lib.hid hown
                clear hB4 hb4 hlsl hown hok2 HCS HB3
                go_wp2_with fail
                go_loopw [21, 22] (fun bv i w5 => ∃ j : Nat, j ≤ n ∧ i = .int .i64 j ∧ w5.ownsRow W4.heap.size 30 1 bv j ((ls.reverse.take j).map cv) ∧ Below W4.heap.size W4 w5) (fun _ i _ => n - (intOf i).toNat)
                case atStart => exact ⟨0, by omega, rfl, own_nil _ _ _ _, Below.refl _ _⟩
                case round =>
                  obtain ⟨j, hj, rfl, hown2, hb2⟩ := hrel
                  by_cases hjl : j < n
                  · obtain ⟨g, wc', he, hwc, hg1, hg2, hcells⟩ := own_pos (zs := ls) (by rw [HN.out]; exact HOWN.out) (by rw [HN.out]; omega)
                    rw [HN.out] at he hwc
                    obtain ⟨rfl, rfl⟩ : wa = some ⟨g, 0, none⟩ ∧ wc = wc' := by simpa using he
                    obtain ⟨p, hp⟩ : ∃ p : Nat, p = n - 1 - j := ⟨_, rfl⟩
                    have hpe : nth ls.reverse j = nth ls p := by
                      simp only [nth, List.getD_eq_getElem?_getD]
                      rw [List.getElem?_reverse (by rw [HN.out]; exact hjl), HN.out, hp]
                    have hpm : (n : Int) - 1 - (j : Int) = (p : Int) := by omega
                    have hcell : wr.cell? ⟨g, p, none⟩ = some (.complex .f64 (nth ls p).1 (nth ls p).2) := by
                      have := hcells p (by rw [HN.out]; omega)
                      rw [Nat.zero_add] at this
                      rw [hb2.cell hg2]; exact this
                    have hjl' : (j : Int) < (n : Int) := by omega
                    have hpl' : (p : Int) < (n : Int) := by omega
                    have hnb : (n : Int) ≤ 8796093022207 := by omega
                    have hwc2 : (n : Int) ≤ (wc : Int) := by omega
                    have e3 := map_take_succ ls.reverse j (by rw [List.length_reverse, HN.out]; exact hjl)
                    rw [hpe] at e3
                    have E3 := Lib.hid e3; have HC := Lib.hid hcells
                    clear e3 hp hpe he hwc hcells
                    go_wp2_with (at_builtin; refine wpList_append_own _ rfl _ _ 22 rfl W4.heap.size 30 i0 (.complex .f64 0 0) 1 16 Try.underlying22 hi0 hz0 hz1 hz2 rfl (by decide) _ j _ rfl (hown2.alloc _) ⟨wr.heap.size, 0, none⟩ 1 1 [cv (nth ls p)] rfl rfl (World.news_of_block (cs := #[cv (nth ls p)]) (t := 30) (fr := (0, 0)) (heap_alloc_new wr _)) (by simp [cv, Value.oneCell']) (by unfold maxLen; omega) (by omega) (by simp; have := hb2.size; omega) ?_; intro v' w1 hown1 hgrow _; have hB : Below W4.heap.size W4 w1 := (hb2.alloc hb2.size _).grown hgrow (by simp; have := hb2.size; omega) (own_ge hown2); have HB := Lib.hid hB; have HO := Lib.hid hown1; clear hB hown1 hgrow)
                    go_roundw
                    case rel => exact ⟨j + 1, by omega, by go_num, by rw [E3.out]; exact HO.out, HB.out⟩
                    case measure => simp [intOf]; omega
                  · obtain rfl : j = n := by omega
                    have hl2 : ls.reverse.take j = ls.reverse := List.take_of_length_le (by rw [List.length_reverse, HN.out]; omega)
                    rw [hl2] at hown2
                    have hl3 : ls.reverse.length = j := by rw [List.length_reverse, HN.out]
                    have hslw : Sl wr (.slice wa j wc) ls := by
                      have := (Sl.of_own (zs := ls) (by rw [HN.out]; exact HOWN.out)).below hb2
                      exact this
                    have hslb : Sl wr u21 ls.reverse := Sl.of_own (by rw [hl3]; exact hown2)
                    have hB5 : Below w.heap.size w wr := HB4.out.trans (hb2.mono HB4.out.size)
                    obtain ⟨W5, hW5⟩ : ∃ W5 : World, W5 = wr := ⟨_, rfl⟩
                    subst hW5
                    have hs1 := sum_any ls _ 1 W5 hslw (by rw [HN.out]; omega)
                    have hs2 := fun (W : World) (h : Below W5.heap.size W5 W) => sum_any ls.reverse _ 2 W (hslb.below h) (by rw [hl3]; omega)
                    have HS1 := Lib.hid hs1; have HS2 := Lib.hid hs2; have HB5 := Lib.hid hB5; have HSW := Lib.hid hslw
                    have hjz5 : ¬ ((j : Int) < (j : Int)) := by omega
                    clear hs1 hs2 hB5 hslw hslb hl3 hl2 hown2 hb2 hjl hj
                    go_wp2_with fail
                    refine HS1.out.mono ?_
                    rintro e W6 ⟨x, y, code, rfl, hres, hb6⟩
                    rcases hres with ⟨_, _, rfl, hsr⟩ | ⟨hno, _⟩
                    · have HB6 := Lib.hid hb6; have HX := Lib.hid hsr; clear hb6 hsr
                      go_wp2_with fail
                      refine (HS2.out _ HB6.out).mono ?_
                      rintro e W7 ⟨x2, y2, code, rfl, hres, hb7⟩
                      rcases hres with ⟨_, _, rfl, hsr⟩ | ⟨hno, _⟩
                      · have hsame := SumR.turned HX.out hsr
                        have hB7 : Below W5.heap.size W5 W7 := HB6.out.trans (hb7.mono HB6.out.size)
                        have hslw7 := HSW.out.below hB7
                        have hB7' : Below w.heap.size w W7 := HB5.out.trans (hB7.mono HB5.out.size)
                        have HB7 := Lib.hid hB7'; have HSW7 := Lib.hid hslw7
                        clear hb7 hsr hB7 hB7' hslw7 HB6 HB5 HX HSW HS1 HS2 HB4
                        go_wp2_with (first | (go_at_call 10; refine (num_any _ _).mono ?_; rintro e w' ⟨rfl, rfl⟩) | (go_at_call 14; refine (sameC_any _ _ _ _ _).mono ?_; rintro e w' ⟨rfl, rfl⟩; rw [hsame]))
                        clear hsame
                        go_loopw [27] (fun o w8 => ∃ m : Nat, 1 ≤ m ∧ m ≤ 4 ∧ o = .int .i64 m ∧ Below W7.heap.size W7 w8) (fun o _ => 4 - (intOf o).toNat)
                        case atStart => exact ⟨1, by omega, by omega, rfl, Below.refl _ _⟩
                        case round =>
                          obtain ⟨m, hm1, hm2, rfl, hb8⟩ := hrel
                          by_cases hcond5 : 2 ≤ j ∧ m ≤ 3
                          · obtain ⟨hj2, hm3⟩ := hcond5
                            obtain ⟨b, off, hwa, hwc2, hcells⟩ : ∃ b off, wa = some ⟨b, off, none⟩ ∧ j ≤ wc ∧ Cells wr b off ls := by
                              rcases HSW7.out.below hb8 with ⟨h, _⟩ | ⟨b, off, cap', he, hcap', hc⟩
                              · exfalso
                                have := congrArg (fun v => match v with | Value.slice _ l _ => l | _ => 0) h
                                simp at this; omega
                              · rw [HN.out] at he hcap'
                                obtain ⟨rfl, rfl⟩ : wa = some ⟨b, off, none⟩ ∧ wc = cap' := by simpa using he
                                exact ⟨b, off, rfl, hcap', hc⟩
                            subst hwa
                            have ht2 := take_two ls (by rw [HN.out]; exact hj2)
                            have hs1 := sum_any (ls.take 2) (.slice (some ⟨b, off, none⟩) 2 wc) m wr (.inr ⟨b, off, wc, by rw [ht2]; rfl, by rw [ht2]; simp; omega, hcells.take 2⟩) (by rw [ht2]; simp)
                            rw [ht2] at hs1
                            have hc0 : wr.cell? ⟨b, off, none⟩ = some (.complex .f64 (nth ls 0).1 (nth ls 0).2) := hcells 0 (by rw [HN.out]; omega)
                            have hc1 : wr.cell? ⟨b, off + 1, none⟩ = some (.complex .f64 (nth ls 1).1 (nth ls 1).2) := hcells 1 (by rw [HN.out]; omega)
                            have hbl : b < wr.heap.size := World.block_lt_of_cell? wr _ hc0
                            have hj2' : (2 : Int) ≤ (j : Int) := by omega
                            have hm3' : (m : Int) ≤ 3 := by omega
                            have hwc3 : (2 : Int) ≤ (wc : Int) := by omega
                            have hj1' : (1 : Int) < (j : Int) := by omega
                            have hj0 : 0 < j := by omega
                            have HS1 := Lib.hid hs1; have HC0 := Lib.hid hc0; have HC1 := Lib.hid hc1; have HB8 := Lib.hid hb8
                            clear hs1 hc0 hc1 hb8 hcells ht2
                            go_wp2_with fail
                            refine HS1.out.mono ?_
                            rintro e W9 ⟨x5, y5, code, rfl, hres, hb9⟩
                            rcases hres with ⟨_, _, rfl, hsr⟩ | ⟨hno, _⟩
                            · have htw := fun x' y' => SumR.two (x' := x') (y' := y') hsr
                              have c0 : W9.cell? ⟨b, off, none⟩ = some (.complex .f64 (nth ls 0).1 (nth ls 0).2) := by rw [hb9.cell hbl]; exact HC0.out
                              have c1 : W9.cell? ⟨b, off + 1, none⟩ = some (.complex .f64 (nth ls 1).1 (nth ls 1).2) := by rw [hb9.cell hbl]; exact HC1.out
                              have hB9 : Below W7.heap.size W7 W9 := HB8.out.trans (hb9.mono HB8.out.size)
                              have HTW := Lib.hid htw; have HB9 := Lib.hid hB9
                              clear htw hB9 hb9 hsr HC0 HC1 HS1 HB8
                              go_wp2_with fail
                              go_region_held3 (fun w' => w'.cell? ⟨b, off, none⟩ = some (.complex .f64 (nth ls 0).1 (nth ls 0).2) ∧ w'.cell? ⟨b, off + 1, none⟩ = some (.complex .f64 (nth ls 1).1 (nth ls 1).2))
                                (first | go_keep)
                                ((first
                                  | (go_at_call 10; (refine (num_any _ _).mono ?_); rintro e w' ⟨rfl, rfl⟩)
                                  | (go_at_call 16; (refine (add_any _ _ _ _ _).mono ?_); rintro e w' ⟨x', y', n', hA, rfl, rfl⟩)
                                  | (go_at_call 14; (refine (sameC_any _ _ _ _ _).mono ?_); rintro e w' ⟨rfl, rfl⟩; rw [HTW.out _ _ hA])))
                              go_wp2_with fail
                              go_roundw
                              case rel => exact ⟨m + 1, by omega, by omega, by go_num, by first | exact HB9.out.drew | exact below_drewN HB9.out _ | exact below_drewN HB9.out.drew _ | exact (below_drewN HB9.out _).drew⟩
                              case measure => simp [intOf]; omega
                            · exact absurd ⟨by omega, by omega⟩ hno
                          · have hcond6 : ¬ ((2 : Int) ≤ (j : Int)) ∨ ((2 : Int) ≤ (j : Int) ∧ ¬ ((m : Int) ≤ 3)) := by omega
                            have hB8 : Below w.heap.size w wr := HB7.out.trans (hb8.mono HB7.out.size)
                            have HB8 := Lib.hid hB8
                            clear hcond5 hB8 hb8
                            rcases hcond6 with hcond6 | ⟨hcond6, hcond7⟩
                            all_goals
                              go_wp2_with fail
                              refine (CpxAwake.awake_any _).mono ?_
                              rintro e w9 ⟨rfl, hb9⟩
                              have HB9 := Lib.hid hb9; clear hb9
                              go_wp2_with fail
                              go_ret
                              exact ⟨rfl, HB8.out.trans (HB9.out.mono HB8.out.size)⟩
                      · exact absurd ⟨by omega, by omega⟩ hno
                    · exact absurd ⟨by omega, by omega⟩ hno
end Go.Proofs.Ytmfmgofafamemaa
