/- Contracts of surdbig.down, right, lowest, ends, bits. Contract of surdbig.small: a list divided by one word. Contracts of surdbig.right, bits. Contracts of surdbig.bits, and of the method that counts the bits of a number. Contract of surdbig.ends. -/
import Derived.Test.YtokmommlabdcdaaGreatDoorVBig6
import Derived.RegionTactic
import Derived.ChangeAlike
import Derived.BigRegion
import Derived.Test.YtokmommlabdcdaaGreatDoorVFlRel
set_option linter.unusedVariables false
set_option linter.unusedSimpArgs false
set_option linter.unusedVariables false
set_option linter.unusedSimpArgs false
namespace Go.Proofs.YtokmommlabdcdaaGreatDoor
open Wd Fl Go.RowKit
/-- what holds of the numbers at the head of down's round -/
def DownV (l Q : List Nat) (m s k : Nat) : Prop := Q.length = m ∧ Ok Q ∧ ∀ j, j < k → Q.getD j 0 = val l / 2 ^ s / 4294967296 ^ j % 4294967296
theorem DownV.step {l Q : List Nat} {m s k y : Nat} (h : DownV l Q m s k) (hk : k < m) (hy : y = val l / 2 ^ s / 4294967296 ^ k % 4294967296) : DownV l (Q.set k y) m s (k + 1) := by
  obtain ⟨h1, h2, h3⟩ := h
  refine ⟨by rw [List.length_set]; exact h1, h2.set (by rw [hy]; exact Nat.mod_lt _ (by decide)), fun j hj => ?_⟩
  rw [getD_set _ _ _ _ (by omega)]
  by_cases e : j = k
  · rw [if_pos e, hy, e]
  · rw [if_neg e]; exact h3 j (by omega)
theorem DownV.done {l Q : List Nat} {m s : Nat} (h : DownV l Q m s m) (ok : Ok l) (hl : l.length = m) : val Q = val l / 2 ^ s := by
  obtain ⟨h1, h2, h3⟩ := h
  refine val_digits Q _ (fun i hi => h3 i (by omega)) ?_
  rw [h1, ← hl]
  exact Nat.lt_of_le_of_lt (Nat.div_le_self _ _) (val_lt ok)
set_option maxRecDepth 100000 in
set_option maxHeartbeats 4000000 in
theorem down_any (va : Value) (l : List Nat) (s : Nat) (w : World) (ha : WAt TW w va l) (oa : Ok l) (hl : l.length ≤ 1099511627776) (hs : s < 32) :
    Calls Tryz.prog 121 #[va, .int .u64 s] w (WRet (val l / 2 ^ s) w) := by
  obtain ⟨i0, hi0, hz0, hz1, hz2⟩ := info_parts infoW
  obtain ⟨aa, ca, rfl⟩ := ha.slice
  have HA := Lib.hid ha; have OA := Lib.hid oa
  clear ha oa
  generalize hL : l.length = m at *
  have HL := Lib.hid hL; have HLB := Lib.hid hl
  have p1 : (m : Int) ≤ 1099511627776 := by omega
  obtain ⟨sI, hsN⟩ : ∃ sI : Int, (s : Int) = sI := ⟨_, rfl⟩
  rw [hsN]
  have hsI : sI < 32 := by omega
  have hsI0 : 0 ≤ sI := by omega
  have hS1 : sI.toNat = s := by omega
  have hS2 : (32 - sI).toNat = 32 - s := by omega
  have HSN := Lib.hid hsN; have HS := Lib.hid hs
  clear hsN hs hl hL
  go_enter Tryz.func121, Tryz.ntmps121
  go_wp2_with (refine wpList_make_full _ rfl _ _ _ rfl w.heap.size TW i0 (.int .u32 0) 1 Tryz.underlying58 hi0 hz0 hz1 .i64 .i64 _ _ m rfl rfl rfl rfl (by rw [hz2]; have := HLB.out; omega) (by unfold maxLen; have := HLB.out; omega) (Nat.le_refl _) ?_)
  intro w1 hown hgrow
  rw [made_words] at hown
  generalize hG : w.heap.size = G at *
  have hB1 : Below G w w1 := (Below.refl _ _).grown hgrow (by omega) (fun k hk => by cases hk)
  have HG := Lib.hid hG
  clear hgrow hG
  go_wp2_with fail
  go_loopw [6] (fun si wr => ∃ (k : Nat) (Q : List Nat), k ≤ m ∧ si = .int .i64 k ∧ DownV l Q m s k ∧ wr.ownsRow G TW 1 (.slice (some ⟨G, 0, none⟩) m m) m (Q.map wv) ∧ Below G w wr) (fun si _ => m - (intOf si).toNat)
  case atStart => exact ⟨0, List.replicate m 0, by omega, rfl, ⟨List.length_replicate, .replicate _, fun j hj => absurd hj (by omega)⟩, hown, hB1⟩
  case round =>
    obtain ⟨k, Q, hk, rfl, hv, ho, hb⟩ := hrel
    have HO := Lib.hid ho; have HV := Lib.hid hv
    clear ho
    by_cases hlt : k < m
    · have hlt' : (k : Int) < (m : Int) := by omega
      obtain ⟨e1, b1, o1, rfl, q1, t1, f1⟩ := wcell HA.out (by have := HL.out; omega)
      have hbG : b1 < G := by have := HG.out; have := t1.lt; omega
      have g1 : wr.cell? ⟨b1, o1 + k, none⟩ = some (.int .u32 (l.getD k 0 : Nat)) := (hb.cell (p := ⟨b1, o1 + k, none⟩) hbG).trans (f1 k (by have := HL.out; omega))
      have q1' : (m : Int) ≤ (ca : Int) := by have := HL.out; omega
      have g3 : wr.cell? ⟨G, k, none⟩ = some (.int .u32 (Q.getD k 0 : Nat)) := by
        rw [HO.out.cellAt k (by omega)]
        have : k < Q.length := by have := hv.1; omega
        simp [wv, List.getD_eq_getElem?_getD, this]
      have g4 := HO.out.frozenAt k
      have hx := OA.out.get k
      have hxI : (l.getD k 0 : Int) < 4294967296 := by omega
      have st := fun (y : Nat) => (HO.out.stored k (wv y)).1
      have ST := Lib.hid st
      have hbs := fun (y : Nat) => Below.setCell hb (p := ⟨G, k, none⟩) (Nat.le_refl _) (wv y)
      have HBS := Lib.hid hbs
      have F1 := Lib.hid f1
      by_cases hz : s = 0 ∨ m ≤ k + 1
      · have hw := down_word0 l OA.out s k HS.out (by rw [HL.out]; exact hz)
        have hnv := hv.step (y := l.getD k 0 / 2 ^ s) hlt hw
        have eX : (l.getD k 0 : Int) / 2 ^ s = ((l.getD k 0 / 2 ^ s : Nat) : Int) := by rw [Int.natCast_ediv, Int.natCast_pow]; rfl
        have HNV := Lib.hid hnv
        have EX := Lib.hid eX
        clear hw hnv hv e1 q1 t1 f1 hx st hbs hS2 eX
        generalize l.getD k 0 = x at *
        by_cases h0 : sI = 0
        · have hs0 : s = 0 := by rw [← hS1, h0]; rfl
          have HS0 := Lib.hid hs0
          subst h0
          clear hS1 hsI hsI0 hz hs0
          have e5 : x / 2 ^ s = x := by rw [HS0.out, Nat.pow_zero, Nat.div_one]
          have hnv2 := HNV.out
          rw [e5] at hnv2
          have HNV2 := Lib.hid hnv2
          clear e5 hnv2
          go_wp2
          go_roundw
          case rel => exact ⟨k + 1, Q.set k x, by omega, by go_num, HNV2.out, by rw [List.map_set]; exact ST.out _, HBS.out _⟩
          case measure => simp [intOf]; omega
        · have hs0 : 0 < sI := by omega
          have hk1 : ¬ (k : Int) + 1 < (m : Int) := by have := HSN.out; omega
          clear hz h0
          go_wp2
          go_roundw
          case rel => exact ⟨k + 1, Q.set k (x / 2 ^ s), by omega, by go_num, HNV.out, by rw [EX.out, List.map_set]; exact ST.out _, by rw [EX.out]; exact HBS.out _⟩
          case measure => simp [intOf]; omega
      · have hs0 : 0 < sI := by have := HSN.out; omega
        have hk1 : (k : Int) + 1 < (m : Int) := by omega
        have hw := down_word l OA.out s k HS.out
        have hnv := fun y hy => hv.step (y := y) hlt hy
        have HNV := Lib.hid hnv; have HW := Lib.hid hw
        have hy := OA.out.get (k + 1)
        have FY := Lib.hid (f1 (k + 1) (by have := HL.out; omega))
        have hyI : (l.getD (k + 1) 0 : Int) < 4294967296 := by omega
        clear hw hnv hv e1 q1 t1 f1 hx st hbs hz hy
        generalize l.getD k 0 = x at *
        generalize l.getD (k + 1) 0 = y at *
        go_wp2_with fail
        have eX : (x : Int) / 2 ^ s = ((x / 2 ^ s : Nat) : Int) := by rw [Int.natCast_ediv, Int.natCast_pow]; rfl
        rw [eX]
        obtain ⟨W2, hW2⟩ : ∃ W2, W2 = wr.setCell ⟨G, k, none⟩ (.int .u32 ((x / 2 ^ s : Nat) : Int)) := ⟨_, rfl⟩
        rw [← hW2]
        have st2 := ST.out (x / 2 ^ s)
        have hb2 := HBS.out (x / 2 ^ s)
        unfold wv at st2 hb2
        rw [← hW2] at st2 hb2
        have hQl : k < Q.length := by have := HV.out.1; omega
        have c1 : W2.cell? ⟨G, k, none⟩ = some (.int .u32 ((x / 2 ^ s : Nat) : Int)) := by
          rw [st2.cellAt k (by omega)]
          simp [hQl]
        have c3 := st2.frozenAt k
        have hk2 : k + 1 < m := by omega
        have c2 : W2.cell? ⟨b1, o1 + (k + 1), none⟩ = some (.int .u32 ((y : Nat) : Int)) := (hb2.cell (p := ⟨b1, o1 + (k + 1), none⟩) hbG).trans FY.out
        have ST2 := Lib.hid st2; have HB2 := Lib.hid hb2
        clear st2 hb2 hW2 eX g1 g3 g4 hQl
        generalize hxs : x / 2 ^ s = xs at *
        have HXS := Lib.hid hxs
        clear hxs
        have hxsW : xs < 4294967296 := by rw [← HXS.out]; have := Nat.div_le_self x (2 ^ s); omega
        have hor : bits .or .u32 (xs : Int) ((y : Int) * 2 ^ (32 - s) % 4294967296) = ((xs ||| y * 2 ^ (32 - s) % 4294967296 : Nat) : Int) := by
          rw [← u32_or_nat _ _ hxsW (Nat.mod_lt _ (by decide)), Int.natCast_emod, Int.natCast_mul, Int.natCast_pow]; rfl
        have HOR := Lib.hid hor
        have hw2 := HW.out
        have HW2 := Lib.hid (HNV.out _ hw2)
        have HSS := Lib.hid (fun N v => ((show (W2.drewN N).ownsRow _ _ _ _ _ _ from ST2.out).stored k (wv v)).1)
        have HBB := Lib.hid (fun N v => Below.setCell (below_drewN HB2.out N) (p := ⟨G, k, none⟩) (Nat.le_refl _) (wv v))
        clear hor hw2 hxsW
        go_region
        all_goals
          go_wp2
          rw [HOR.out]
          go_roundw
          case rel =>
            refine ⟨k + 1, Q.set k (xs ||| y * 2 ^ (32 - s) % 4294967296), by omega, by go_num, HW2.out, ?_, HBB.out 1 _⟩
            have := HSS.out 1 (xs ||| y * 2 ^ (32 - s) % 4294967296)
            rw [List.map_set]
            rw [List.set_set] at this
            exact this
          case measure => simp [intOf]; omega
    · have hge : ¬ (k : Int) < (m : Int) := by omega
      obtain rfl : k = m := by omega
      have hvv := hv.done OA.out HL.out
      have hw : WAt TW wr (.slice (some ⟨G, 0, none⟩) k k) Q := by
        refine WAt.of_own (base := G) ?_
        rw [hv.1]; exact HO.out
      have HW := Lib.hid hw; have HVAL := Lib.hid hvv; have OKQ := Lib.hid hv.2.1; have HQL := Lib.hid hv.1
      clear hvv hw hv hS1 hS2
      go_wp2_with fail
      refine (trimmed_any _ _ _ HW.out OKQ.out (by rw [HQL.out]; have := HLB.out; omega)).mono ?_
      rintro e w3 ⟨v3, l3, rfl, h3, ok3, nm3, hv3, hb3⟩
      go_wp2_with fail
      go_ret
      exact WRet.mk h3 ok3 nm3 (hv3.trans HVAL.out) (by rw [HG.out]; exact hb.trans (hb3.mono (by have := hb.size; have := HG.out; omega)))
end Go.Proofs.YtokmommlabdcdaaGreatDoor
set_option linter.unusedVariables false
set_option linter.unusedSimpArgs false
namespace Go.Proofs.YtokmommlabdcdaaGreatDoor
open Wd Fl Go.RowKit
/-- a list and a word -/
def SmRet (q r : Nat) (w : World) (e : Ending) (w' : World) : Prop := ∃ v l, e = .returned (.tuple #[v, .int .u32 ((r : Nat) : Int)]) ∧ WAt TW w' v l ∧ Ok l ∧ Nm l ∧ val l = q ∧ Below w.heap.size w w'
theorem or_join (x y : Int) (h1 : 0 ≤ x) (hx : x < 4294967296) (h2 : 0 ≤ y) (hy : y < 4294967296) : bits .or .u64 (x * 4294967296) y = x * 4294967296 + y := by
  obtain ⟨a, rfl⟩ := Int.eq_ofNat_of_zero_le h1
  obtain ⟨b, rfl⟩ := Int.eq_ofNat_of_zero_le h2
  have h := u64_or_nat (a * 4294967296) b (by omega) (by omega)
  rw [Int.natCast_mul, show ((4294967296 : Nat) : Int) = 4294967296 from rfl] at h
  rw [h, nat_join 32 _ _ (by omega) (by omega)]
  omega
/-- the slots and the world at the round's head -/
def SmL (l : List Nat) (x n G : Nat) (w : World) (sr sj : Value) (wr : World) : Prop :=
  ∃ (t : Nat) (r : Int) (Q : List Nat), t ≤ n ∧ sr = .int .u64 r ∧ sj = .int .i64 ((t : Int) - 1) ∧ SmV l x n t r Q ∧ wr.ownsRow G TW 1 (.slice (some ⟨G, 0, none⟩) n n) n (Q.map wv) ∧ Below G w wr
theorem SmL.next {l Q : List Nat} {x n G t : Nat} {w wr : World} {r T q r' j' : Int} (h : SmV l x n (t + 1) r Q) (ho : wr.ownsRow G TW 1 (.slice (some ⟨G, 0, none⟩) n n) n (Q.map wv)) (hb : Below G w wr) (hn : t < n) (hx : x < 4294967296) (ol : Ok l) (hT : T = r * 4294967296 + (l.getD t 0 : Nat)) (hq : q = T / x) (hr : r' = T % x) (hj : j' = (t : Int) - 1) :
    SmL l x n G w (.int .u64 r') (.int .i64 j') (wr.setCell ⟨G, t, none⟩ (.int .u32 q)) := by
  obtain ⟨a, b, c, d, e⟩ := h.step hn hx ol hT
  subst hq hr hj
  have eq : T / (x : Int) = (((T / (x : Int)).toNat : Nat) : Int) := by omega
  refine ⟨t, _, _, by omega, rfl, rfl, e, ?_, hb.setCell (p := ⟨G, t, none⟩) (Nat.le_refl _) _⟩
  rw [List.map_set]
  conv => arg 1; rw [eq]
  exact (ho.stored t (wv (T / (x : Int)).toNat)).1
set_option maxRecDepth 100000 in
set_option maxHeartbeats 4000000 in
theorem small_any (va : Value) (l : List Nat) (x : Nat) (w : World) (ha : WAt TW w va l) (oa : Ok l) (hl : l.length ≤ 1099511627776) (hx0 : 0 < x) (hx : x < 4294967296) :
    Calls Tryz.prog 114 #[va, .int .u32 x] w (SmRet (val l / x) (val l % x) w) := by
  obtain ⟨i0, hi0, hz0, hz1, hz2⟩ := info_parts infoW
  obtain ⟨aa, ca, rfl⟩ := ha.slice
  have HA := Lib.hid ha; have OA := Lib.hid oa
  clear ha oa
  generalize hL : l.length = m at *
  have HL := Lib.hid hL; have HLB := Lib.hid hl
  have p1 : (m : Int) ≤ 1099511627776 := by omega
  obtain ⟨xI, hxN⟩ : ∃ xI : Int, ((x : Nat) : Int) = xI := ⟨_, rfl⟩
  rw [hxN]
  have x1 : xI < 4294967296 := by omega
  have x2 : 1 ≤ xI := by omega
  have x3 : ¬ xI = 0 := by omega
  have HXN := Lib.hid hxN; have HX0 := Lib.hid hx0; have HX := Lib.hid hx
  clear hxN hl hL hx0 hx
  go_enter Tryz.func114, Tryz.ntmps114
  go_wp2_with (refine wpList_make_full _ rfl _ _ _ rfl w.heap.size TW i0 (.int .u32 0) 1 Tryz.underlying58 hi0 hz0 hz1 .i64 .i64 _ _ m rfl rfl rfl rfl (by rw [hz2]; have := HLB.out; omega) (by unfold maxLen; have := HLB.out; omega) (Nat.le_refl _) ?_)
  intro w1 hown hgrow
  rw [made_words] at hown
  generalize hG : w.heap.size = G at *
  have hB1 : Below G w w1 := (Below.refl _ _).grown hgrow (by omega) (fun k hk => by cases hk)
  have HG := Lib.hid hG
  clear hgrow hG
  go_wp2_with fail
  go_loopw [7, 8] (fun sr sj wr => SmL l x m G w sr sj wr) (fun _ sj _ => (intOf sj + 1).toNat)
  case atStart => exact ⟨m, 0, _, Nat.le_refl _, rfl, rfl, SmV.start HX0.out HL.out, hown, hB1⟩
  case round =>
    obtain ⟨t, r, Q, ht, rfl, rfl, hv, ho, hb⟩ := hrel
    obtain ⟨r1, r2, hQl, hQo⟩ := hv.bounds
    have HO := Lib.hid ho; have HV := Lib.hid hv
    clear ho hv
    cases t with
    | succ j =>
      have t1 : ((j + 1 : Nat) : Int) - 1 = (j : Int) := by omega
      rw [t1]
      have t2 : decide ((0 : Int) ≤ (j : Int)) = true := decide_eq_true (by omega)
      have hjm : (j : Int) < (m : Int) := by omega
      obtain ⟨e1, b1, o1, rfl, q1, tt1, f1⟩ := wcell HA.out (by have := HL.out; omega)
      have hbG : b1 < G := by have := HG.out; have := tt1.lt; omega
      have g1 : wr.cell? ⟨b1, o1 + j, none⟩ = some (.int .u32 (l.getD j 0 : Nat)) := (hb.cell (p := ⟨b1, o1 + j, none⟩) hbG).trans (f1 j (by have := HL.out; omega))
      have q1' : (m : Int) ≤ (ca : Int) := by have := HL.out; omega
      have g3 : wr.cell? ⟨G, j, none⟩ = some (.int .u32 (Q.getD j 0 : Nat)) := by
        rw [HO.out.cellAt j (by omega)]
        have : j < Q.length := by omega
        simp [wv, List.getD_eq_getElem?_getD, this]
      have g4 := HO.out.frozenAt j
      have hy := OA.out.get j
      obtain ⟨yI, hyI⟩ : ∃ yI : Int, ((l.getD j 0 : Nat) : Int) = yI := ⟨_, rfl⟩
      rw [hyI] at g1
      have y1 : 0 ≤ yI := by omega
      have y2 : yI < 4294967296 := by omega
      have r3 : r < 4294967296 := by have := HXN.out; omega
      obtain ⟨T, hT⟩ : ∃ T : Int, r * 4294967296 + yI = T := ⟨_, rfl⟩
      have orr : bits .or .u64 (r * 4294967296) yI = T := by rw [or_join r yI r1 r3 y1 y2, hT]
      have hTT : T = r * 4294967296 + ((l.getD j 0 : Nat) : Int) := by rw [hyI, hT]
      obtain ⟨s1, s2, s3, s4, s5⟩ := HV.out.step (by omega) HX.out OA.out hTT
      rw [HXN.out] at s3 s4
      have NX := Lib.hid (fun q r' j' h1 h2 h3 => SmL.next (q := q) (r' := r') (j' := j') HV.out HO.out hb (by omega) HX.out OA.out hTT h1 h2 h3)
      have td : T.tdiv xI = T / xI := Int.tdiv_eq_ediv_of_nonneg s1
      have tm : T.tmod xI = T % xI := Int.tmod_eq_emod_of_nonneg s1
      clear e1 q1 tt1 f1 hy hyI hT hTT s5 hQo
      obtain ⟨D, hD⟩ : ∃ D : Int, T / xI = D := ⟨_, rfl⟩
      obtain ⟨M, hM⟩ : ∃ M : Int, T % xI = M := ⟨_, rfl⟩
      rw [hD] at s3 s4 td
      rw [hM] at tm
      have HD := Lib.hid hD; have HM := Lib.hid hM
      clear hD hM
      go_wp2_with fail
      go_roundw
      case rel => exact NX.out _ _ _ (by rw [HXN.out, HD.out]) (by rw [HXN.out, HM.out]) rfl
      case measure => simp [intOf]
    | zero =>
      have t2 : decide ((0 : Int) ≤ ((0 : Nat) : Int) - 1) = false := rfl
      obtain ⟨hd1, hd2⟩ := HV.out.done
      have hw : WAt TW wr (.slice (some ⟨G, 0, none⟩) m m) Q := by
        refine WAt.of_own (base := G) ?_
        rw [hQl]; exact HO.out
      have HW := Lib.hid hw; have HVAL := Lib.hid hd1; have OKQ := Lib.hid hQo; have HQL := Lib.hid hQl; have HR := Lib.hid hd2
      have r3 : r < 4294967296 := by have := HXN.out; omega
      clear hd1 hw hd2 hQo hQl
      go_wp2_with fail
      refine (trimmed_any _ _ _ HW.out OKQ.out (by rw [HQL.out]; have := HLB.out; omega)).mono ?_
      rintro e w3 ⟨v3, l3, rfl, h3, ok3, nm3, hv3, hb3⟩
      go_wp2_with fail
      go_ret2
      exact ⟨v3, l3, by rw [← HR.out]; rfl, h3, ok3, nm3, hv3.trans HVAL.out, by rw [HG.out]; exact hb.trans (hb3.mono (by have := hb.size; have := HG.out; omega))⟩
end Go.Proofs.YtokmommlabdcdaaGreatDoor
set_option linter.unusedVariables false
set_option linter.unusedSimpArgs false
namespace Go.Proofs.YtokmommlabdcdaaGreatDoor
open Wd Fl Go.RowKit
set_option maxHeartbeats 2000000 in
theorem right_any (va : Value) (l : List Nat) (B : Nat) (w : World) (ha : WAt TW w va l) (oa : Ok l) (hl : l.length ≤ 1099511627776) (hB : B ≤ 1099511627776) :
    Calls Tryz.prog 112 #[va, .int .u64 B] w (WRet (val l / 2 ^ B) w) := by
  obtain ⟨aa, ca, rfl⟩ := ha.slice
  obtain ⟨q, s, hq, hs⟩ : ∃ q s, B = 32 * q + s ∧ s < 32 := ⟨B / 32, B % 32, by omega, by omega⟩
  have eq1 : (B : Int) / 32 = (q : Int) := by omega
  have eq2 : (B : Int) % 32 = (s : Int) := by omega
  have hqI : (q : Int) ≤ 1099511627776 := by omega
  have hp : val l / 2 ^ B = val (l.drop q) / 2 ^ s := by
    rw [hq, Nat.pow_add, ← Nat.div_div_eq_div_mul, ← pw, val_div l oa]
  rw [hp]
  by_cases hk : l.length ≤ q
  · have hv : val (l.drop q) / 2 ^ s = 0 := by rw [List.drop_of_length_le hk, val_nil]; exact Nat.zero_div _
    rw [hv]
    have hk' : (l.length : Int) ≤ (q : Int) := by omega
    clear ha oa hp hq hs hv hB hk eq2
    generalize l.length = m at *
    go_enter Tryz.func112, Tryz.ntmps112
    go_wp2_with fail
    go_ret
    exact WRet.mk (.inl ⟨rfl, _, _, rfl, fun _ => rfl⟩) .nil .nil rfl (Below.refl _ _)
  · obtain ⟨e1, b, off, rfl, hc, ht, hf⟩ := wcell ha (by omega)
    have hd := ha.drop q (by omega) (l.length - q) (ca - q) rfl rfl
    have hdl : (l.drop q).length ≤ 1099511627776 := by rw [List.length_drop]; omega
    have HD := Lib.hid (down_any _ (l.drop q) s w hd (oa.drop q) hdl hs)
    have hk' : ¬ (l.length : Int) ≤ (q : Int) := by omega
    have hne : ¬ ca = q := by omega
    have hcI : (l.length : Int) ≤ (ca : Int) := by omega
    clear ha oa hp hq hs hB hk e1 hc ht hf hd hdl
    generalize l.length = m at *
    go_enter Tryz.func112, Tryz.ntmps112
    go_wp2_with fail
    refine HD.out.mono ?_
    rintro e w3 ⟨v3, l3, rfl, h3, ok3, nm3, hv3, hb3⟩
    go_wp2_with fail
    go_ret
    exact WRet.mk h3 ok3 nm3 hv3 hb3
end Go.Proofs.YtokmommlabdcdaaGreatDoor
set_option linter.unusedVariables false
set_option linter.unusedSimpArgs false
namespace Go.Proofs.YtokmommlabdcdaaGreatDoor
open Wd Fl Go.RowKit
/-- what holds at the head of the round that counts -/
def BitV (x j : Nat) (Y : Int) : Prop := Y = ((x / 2 ^ j : Nat) : Int) ∧ (j = 0 ∨ 2 ^ (j - 1) ≤ x) ∧ j ≤ 32
theorem BitV.start (x : Nat) : BitV x 0 x := ⟨by rw [Nat.pow_zero, Nat.div_one], .inl rfl, by omega⟩
theorem BitV.pos {x j : Nat} {Y : Int} (h : BitV x j Y) : 0 ≤ Y := by rw [h.1]; exact Int.natCast_nonneg _
theorem BitV.step {x j : Nat} {Y : Int} (h : BitV x j Y) (hx : x < 4294967296) (hY : 0 < Y) : BitV x (j + 1) (Y / 2) ∧ j < 32 := by
  obtain ⟨rfl, h2, h3⟩ := h
  have hne : x / 2 ^ j ≠ 0 := by
    intro e
    rw [e] at hY
    exact absurd hY (by decide)
  have hs := blen_step hne
  have hj : j < 32 := by
    rw [Nat.add_sub_cancel] at hs
    exact (Nat.pow_lt_pow_iff_right (by decide : 1 < 2)).1 (Nat.lt_of_le_of_lt hs hx)
  refine ⟨⟨?_, .inr hs, by omega⟩, hj⟩
  rw [← half_again, Int.natCast_ediv]; rfl
theorem BitV.done {x j : Nat} {Y : Int} (h : BitV x j Y) (hY : ¬ 0 < Y) : blen x = j := by
  obtain ⟨rfl, h2, h3⟩ := h
  refine blen_end h2 ?_
  generalize x / 2 ^ j = y at *
  omega
theorem BitV.lt {x j : Nat} {Y : Int} (h : BitV x j Y) (hx : x < 4294967296) : Y < 4294967296 := by
  obtain ⟨rfl, _, _⟩ := h
  have := Nat.div_le_self x (2 ^ j)
  generalize x / 2 ^ j = y at *
  omega
set_option maxHeartbeats 2000000 in
theorem bits_any (va : Value) (l : List Nat) (w : World) (ha : WAt TW w va l) (oa : Ok l) (na : Nm l) (hl : l.length ≤ 1099511627776) :
    Calls Tryz.prog 116 #[va] w fun e w' => e = .returned (.int .i64 (blen (val l))) ∧ w = w' := by
  obtain ⟨aa, ca, rfl⟩ := ha.slice
  by_cases h0 : l = []
  · subst h0
    clear ha oa na
    go_enter Tryz.func116, Tryz.ntmps116
    go_wp2_with fail
    go_ret
    exact ⟨rfl, rfl⟩
  · obtain ⟨a, x, rfl⟩ := snoc_of_ne h0
    have hx0 := nm_snoc.1 na
    have hxW : x < 4294967296 := oa x (by simp)
    rw [blen_words oa.left hx0]
    obtain ⟨e1, b, off, rfl, hc, ht, hf⟩ := wcell ha (by simp)
    have g1 := hf a.length (by simp)
    have hgx : (a ++ [x]).getD a.length 0 = x := by simp [List.getD_eq_getElem?_getD]
    rw [hgx] at g1
    have hlen : (a ++ [x]).length = a.length + 1 := by simp
    rw [hlen] at hl hc ⊢
    have p1 : ((a.length + 1 : Nat) : Int) - 1 = (a.length : Int) := by omega
    have p2 : (((a.length + 1 : Nat) : Int) == 0) = false := by rw [beq_eq_false_iff_ne]; omega
    have p3 : (a.length : Int) < ((a.length + 1 : Nat) : Int) := by omega
    have p4 : ((a.length + 1 : Nat) : Int) ≤ (ca : Int) := by omega
    have p5 : (a.length : Int) ≤ 1099511627776 := by omega
    have HXW := Lib.hid hxW
    clear ha oa na h0 hx0 e1 hc ht hf hgx hlen hxW hl
    generalize a.length = n at *
    generalize n + 1 = m at *
    go_enter Tryz.func116, Tryz.ntmps116
    go_wp2_with fail
    go_loop [3, 4] (fun sk sw => ∃ (j : Nat) (Y : Int), sw = .int .u32 Y ∧ sk = .int .i64 (32 * (n : Int) + j) ∧ BitV x j Y) (fun sk _ => (32 * (n : Int) + 32 - intOf sk).toNat)
    case atStart => exact ⟨0, x, rfl, by go_num, .start x⟩
    case round =>
      obtain ⟨j, Y, rfl, rfl, hv⟩ := hrel
      have hj := hv.2.2
      have hY0 := hv.pos
      have hYW := hv.lt HXW.out
      have hjI : (j : Int) ≤ 32 := by omega
      have HV := Lib.hid hv
      clear hv hj
      by_cases hY : 0 < Y
      · have hst := HV.out.step HXW.out hY
        have HST := Lib.hid hst
        clear hst
        go_wp2
        go_round
        case rel => exact ⟨j + 1, Y / 2, rfl, by go_num, HST.out.1⟩
        case measure => have := HST.out.2; simp [intOf]; omega
      · have hd := HV.out.done hY
        have HD := Lib.hid hd
        clear hd
        go_wp2
        go_ret
        exact ⟨ret_int (by rw [HD.out]), rfl⟩
end Go.Proofs.YtokmommlabdcdaaGreatDoor
set_option linter.unusedVariables false
set_option linter.unusedSimpArgs false
namespace Go.Proofs.YtokmommlabdcdaaGreatDoor
open Wd Fl Go.RowKit
def EndsRet (n : Nat) (w : World) (e : Ending) (w' : World) : Prop := ∃ t : Nat, e = .returned (.int .u64 t) ∧ TzR n t ∧ w = w'
theorem EndsRet.mk {n : Nat} {w : World} {t : Nat} (h : TzR n t) : EndsRet n w (.returned (.int .u64 t)) w := ⟨t, rfl, h, rfl⟩
set_option maxHeartbeats 2000000 in
theorem ends_any (va : Value) (l : List Nat) (w : World) (ha : WAt TW w va l) (oa : Ok l) (hl : l.length ≤ 1099511627776) :
    Calls Tryz.prog 110 #[va] w (EndsRet (val l) w) := by
  obtain ⟨aa, ca, rfl⟩ := ha.slice
  have HA := Lib.hid ha; have OA := Lib.hid oa
  generalize hL : l.length = m at *
  have HL := Lib.hid hL
  have p1 : (m : Int) ≤ 1099511627776 := by omega
  clear ha oa hL hl
  go_enter Tryz.func110, Tryz.ntmps110
  go_wp2_with fail
  go_loop [3] (fun si => ∃ k : Nat, k ≤ m ∧ si = .int .i64 k ∧ val (l.take k) = 0) (fun si => m - (intOf si).toNat)
  case atStart => exact ⟨0, by omega, rfl, by rw [List.take_zero]; rfl⟩
  case round =>
    obtain ⟨k, hk, rfl, hz⟩ := hrel
    have HZ := Lib.hid hz
    clear hz
    by_cases hlt : k < m
    · have hlt' : (k : Int) < (m : Int) := by omega
      obtain ⟨e1, b1, o1, rfl, q1, t1, f1⟩ := wcell HA.out (by have := HL.out; omega)
      have g1 := f1 k (by have := HL.out; omega)
      have q1' : (m : Int) ≤ (ca : Int) := by have := HL.out; omega
      have hx := OA.out.get k
      have hst := val_take_succ' l k
      obtain ⟨x, hxd⟩ : ∃ x, l.getD k 0 = x := ⟨_, rfl⟩
      rw [hxd] at g1 hx hst
      have HX := Lib.hid hx; have HXD := Lib.hid hxd; have HST := Lib.hid hst
      clear e1 q1 t1 f1 hx hxd hst
      by_cases hx0 : x = 0
      · have hv : val (l.take (k + 1)) = 0 := by rw [HST.out, HZ.out, hx0, Nat.mul_zero]
        have HV := Lib.hid hv
        have hc : (((x : Nat) : Int) == 0) = true := by rw [hx0]; rfl
        clear hv
        subst hx0
        go_wp2
        go_round
        case rel => exact ⟨k + 1, by omega, by go_num, HV.out⟩
        case measure => simp [intOf]; omega
      · have hc : (((x : Nat) : Int) == 0) = false := by rw [beq_eq_false_iff_ne]; omega
        have HX0 := Lib.hid hx0
        clear hx0
        go_wp2_with fail
        go_loop [4, 5] (fun sk sw => ∃ (j : Nat) (Y : Int), sw = .int .u32 Y ∧ sk = .int .u64 j ∧ HalfV x j Y) (fun sk _ => 32 - (intOf sk).toNat)
        case atStart => exact ⟨0, x, rfl, rfl, .start x⟩
        case round =>
          obtain ⟨j, Y, rfl, rfl, hv⟩ := hrel
          have hj := hv.2.2
          have hY0 := hv.pos
          have hYW := hv.lt HX.out
          have hand := hv.and HX.out
          have hjI : (j : Int) < 32 := by omega
          have HV := Lib.hid hv
          clear hv hj
          by_cases hY : Y % 2 = 0
          · have hst := HV.out.step HX.out HX0.out hY
            have HS := Lib.hid hst
            clear hst
            go_wp2
            go_round
            case rel => exact ⟨j + 1, Y / 2, rfl, by go_num, HS.out⟩
            case measure => have := HS.out.2.2; simp [intOf]; omega
          · have hd := HV.out.done hY
            have ht := tz_words HZ.out (by have := HL.out; omega) HXD.out HV.out.2.2 HV.out.2.1 hd
            have HT := Lib.hid ht
            have hYb : (Y % 2 == 0) = false := by rw [beq_eq_false_iff_ne]; exact hY
            clear hd ht hY
            go_wp2
            go_ret
            exact EndsRet.mk HT.out
    · have hge : ¬ (k : Int) < (m : Int) := by omega
      obtain rfl : k = m := by omega
      have hv : val l = 0 := by have := HZ.out; rwa [take_all (by have := HL.out; omega)] at this
      have HV := Lib.hid hv
      clear hv
      go_wp2
      go_ret
      exact EndsRet.mk (t := 0) (by rw [HV.out]; exact tz_zero)
end Go.Proofs.YtokmommlabdcdaaGreatDoor
