/- Contracts of surdbig's put and Set. Contracts of surdbig's Abs, Lsh, SetUint64, SetInt64, NewInt, Sign, one. Contract of surdbig.lowest. Contract of surdbig.divide where the divisor is greater, or a power of two. Contracts of surdbig's QuoRem and Quo, from a division of the two lists. Contracts of surdbig's Sign, one, SetUint64, SetInt64, NewInt, Uint64. Contracts of surdbig's word64 and odd (the greatest common divisor of two odd lists, the less one of at most two words). Contract of surdbig's common: the greatest common divisor of two lists whose odd parts are small. Contract of surdbig's GCD (with nil, nil ahead), of numbers whose odd parts are small. Fractions without end in memory; contracts of surdbig's whole, entire, place, Denom. Contract of surdbig's Add of whole numbers. Contracts of surdbig's Cmp and Uint64. Contracts of surdbig's Sub and Not, and of surdref2's none, infinite, rank, at, Next, Prev, Class. Contract of surdbig's Mul. Contracts of surdref2's Next, Prev, Class. (Printed by wip/gen55.py.) -/
import Derived.Test.YtokmommlabdcdaaGreatDoorVBig7
import Derived.Test.YtokmommlabdcdaaGreatDoorVBmClone
import Derived.Deep.RegionHeld3
import Derived.Deep.RegionLaw
import Derived.Deep.DrawnRows
import Derived.Test.YtokmommlabdcdaaGreatDoorVFlRel
import Derived.Test.YtokmommlabdcdaaGreatDoorVDBase
set_option linter.unusedVariables false
set_option linter.unusedSimpArgs false
namespace Go.Proofs.YtokmommlabdcdaaGreatDoor
open Wd Fl Go.RowKit
set_option linter.unusedVariables false
set_option linter.unusedSimpArgs false
theorem iput_any (b o : Nat) (neg : Bool) (v : Value) (l : List Nat) (w : World) (hz : ZAt TW w b o 2) (hv : WAt TW w v l) (ok : Ok l) (nm : Nm l) (hl : l.length ≤ 4611686018427387904) :
    Calls Tryz.prog 72 #[.pointer (some ⟨b, o, none⟩), .bool neg, v] w (IntRet TW b o (sgn neg l) w) := by
  obtain ⟨a, cap, rfl⟩ := hv.slice
  obtain ⟨x0, c0⟩ := hz.cell o (by omega)
  obtain ⟨x1, c1⟩ := hz.cell (o + 1) (by omega)
  have f0 := hz.frozen o
  have f1 := hz.frozen (o + 1)
  have fin : IntRet TW b o (sgn neg l) w (.returned (.pointer (some ⟨b, o, none⟩))) ((w.setCell ⟨b, o + 1, none⟩ (.slice a l.length cap)).setCell ⟨b, o, none⟩ (.bool (neg && decide (0 < l.length)))) := by
    have W1 : Wr b o (o + 2) w (w.setCell ⟨b, o + 1, none⟩ (.slice a l.length cap)) := Wr.set _ (by omega) (by omega)
    have W2 := W1.trans (Wr.set (w := w.setCell ⟨b, o + 1, none⟩ (.slice a l.length cap)) (o := o) (.bool (neg && decide (0 < l.length))) (by omega) (by omega))
    refine ⟨rfl, ?_, W2⟩
    have hz2 := hz.wr W2
    obtain ⟨t, cur, ht, hc, hs⟩ := hz
    have hh1 := heap_setCell_same w b (o + 1) cur t (.slice a l.length cap) hc
    have hh2 := heap_setCell_same (w.setCell ⟨b, o + 1, none⟩ (.slice a l.length cap)) b o _ t (.bool (neg && decide (0 < l.length))) hh1
    refine ⟨b, o, neg && decide (0 < l.length), .slice a l.length cap, l, t, rfl, ht, ⟨_, hh2⟩, ?_, ?_, hv.wr W2 ⟨t, cur, ht, hc, hs⟩, ok, nm, ?_, ?_⟩
    · rw [cell_of_row _ _ _ _ _ _ hh2, Array.getElem?_setIfInBounds_self_of_lt (by rw [Array.size_setIfInBounds]; omega)]
    · rw [cell_of_row _ _ _ _ _ _ hh2, Array.getElem?_setIfInBounds_ne (by omega), Array.getElem?_setIfInBounds_self_of_lt (by omega)]
    · intro h; rintro rfl; simp at h
    · unfold sgn
      cases l with
      | nil => simp [val]
      | cons x r => simp
  have FIN := Lib.hid fin
  have p1 : (l.length : Int) ≤ 4611686018427387904 := by omega
  clear hz hv fin ok nm hl
  generalize l.length = n at *
  go_enter Tryz.func72, Tryz.ntmps72
  cases neg
  all_goals
    go_wp2
    have F := FIN.out
    simp only [Bool.true_and, Bool.false_and] at F
    go_ret
    exact F
theorem clone_below {w w1 : World} {T : TypeId} (h : (w.alloc (.cells #[] T)).drew.grownBy w1 (Value.slice (some ⟨w.heap.size, 0, none⟩) 0 0).ownBlock) : Below w.heap.size w w1 :=
  ((Below.refl _ _).alloc (Nat.le_refl _) _).trans ⟨h.os, h.tape, h.output, h.size, fun k hk => h.block k (by simp; omega) (by simp [Value.ownBlock]; omega)⟩
theorem sgn_not (neg : Bool) (l : List Nat) : sgn (!neg) l = -sgn neg l := by unfold sgn; cases neg <;> simp
set_option maxRecDepth 100000 in
set_option maxHeartbeats 2000000 in
theorem iset_any (bz oz bx ox : Nat) (n : Int) (w : World) (hz : ZAt TW w bz oz 2) (hx : IntAt TW w ⟨bx, ox, none⟩ n) (hn : bl n ≤ 100000) :
    Calls Tryz.prog 78 #[.pointer (some ⟨bz, oz, none⟩), .pointer (some ⟨bx, ox, none⟩)] w (IntRet TW bz oz n w) := by
  obtain ⟨i0, hi0, hz0, hz1, hz2⟩ := info_parts infoW
  obtain ⟨neg, a, cap, l, h1, h2, H3, OK, NM, HN, HE, HK, N1⟩ := IntAt.open hx
  have HZ := Lib.hid hz
  have HL0 := Lib.hid (HK.out _ hn)
  clear hz hx hn
  generalize hL : l.length = len at *
  have HL := Lib.hid hL
  clear hL
  go_enter Tryz.func78, Tryz.ntmps78
  go_wp2_with fail
  have HB : Below w.heap.size w (w.alloc (.cells #[] TW)) := (Below.refl _ _).alloc (Nat.le_refl _) _
  have HW := Lib.hid (H3.out.below HB)
  have HO := Lib.hid (World.ownsRow_lit (base := w.heap.size) (e := TW) (size := 1) w #[] 0 (Nat.le_refl _) (by decide) rfl)
  have HBB := Lib.hid HB
  have q1 : (w.alloc (.cells #[] 64)).cell? ⟨bx, ox, none⟩ = some (.bool neg) := (HB.cell (p := ⟨bx, ox, none⟩) N1).trans h1
  have q2 : (w.alloc (.cells #[] 64)).cell? ⟨bx, ox + 1, none⟩ = some (.slice a len cap) := (HB.cell (p := ⟨bx, ox + 1, none⟩) N1).trans h2
  clear HB
  go_region_law (first | (refine step_clone (by rfl) (.tmp 10) (.tmp 14) 58 (by rfl) TW i0 _ Tryz.underlying58 hi0 hz0 hz1 hz2 rfl w.heap.size (.slice (some ⟨w.heap.size, 0, none⟩) 0 0) (by rfl) HO.out (.slice a len cap) l (by rfl) HW.out (by have := HL0.out; have := HL.out; omega) (by simp) ?_; intro v' w1 hw1 hg1; have hb1 := Lib.hid (clone_below hg1); have hw1' := Lib.hid hw1; have q3 := (hb1.out.cell (p := ⟨bx, ox, none⟩) N1).trans h1; clear hw1 hg1) | (go_simp; go_at_call 72; refine (iput_any _ _ _ _ l _ (HZ.out.below hb1.out) hw1'.out OK.out NM.out (by have := HL0.out; have := HL.out; omega)).mono ?_; rintro e w2 ⟨rfl, hi2, hr2⟩; have HI2 := Lib.hid hi2; have HR2 := Lib.hid ((Wr.of_below _ _ _ hb1.out).trans hr2); clear hi2 hr2))
  all_goals
    go_wp2_with fail
    go_ret
    exact ⟨rfl, by rw [HE.out]; exact HI2.out, HR2.out⟩
set_option maxRecDepth 100000 in
set_option maxHeartbeats 2000000 in
theorem ineg_any (bz oz bx ox : Nat) (n : Int) (w : World) (hz : ZAt TW w bz oz 2) (hx : IntAt TW w ⟨bx, ox, none⟩ n) (hn : bl n ≤ 100000) :
    Calls Tryz.prog 84 #[.pointer (some ⟨bz, oz, none⟩), .pointer (some ⟨bx, ox, none⟩)] w (IntRet TW bz oz (-n) w) := by
  obtain ⟨i0, hi0, hz0, hz1, hz2⟩ := info_parts infoW
  obtain ⟨neg, a, cap, l, h1, h2, H3, OK, NM, HN, HE, HK, N1⟩ := IntAt.open hx
  have HZ := Lib.hid hz
  have HL0 := Lib.hid (HK.out _ hn)
  clear hz hx hn
  generalize hL : l.length = len at *
  have HL := Lib.hid hL
  clear hL
  go_enter Tryz.func84, Tryz.ntmps84
  go_wp2_with fail
  have HB : Below w.heap.size w (w.alloc (.cells #[] TW)) := (Below.refl _ _).alloc (Nat.le_refl _) _
  have HW := Lib.hid (H3.out.below HB)
  have HO := Lib.hid (World.ownsRow_lit (base := w.heap.size) (e := TW) (size := 1) w #[] 0 (Nat.le_refl _) (by decide) rfl)
  have HBB := Lib.hid HB
  have q1 : (w.alloc (.cells #[] 64)).cell? ⟨bx, ox, none⟩ = some (.bool neg) := (HB.cell (p := ⟨bx, ox, none⟩) N1).trans h1
  have q2 : (w.alloc (.cells #[] 64)).cell? ⟨bx, ox + 1, none⟩ = some (.slice a len cap) := (HB.cell (p := ⟨bx, ox + 1, none⟩) N1).trans h2
  clear HB
  go_region_law (first | (refine step_clone (by rfl) (.tmp 11) (.tmp 15) 58 (by rfl) TW i0 _ Tryz.underlying58 hi0 hz0 hz1 hz2 rfl w.heap.size (.slice (some ⟨w.heap.size, 0, none⟩) 0 0) (by rfl) HO.out (.slice a len cap) l (by rfl) HW.out (by have := HL0.out; have := HL.out; omega) (by simp) ?_; intro v' w1 hw1 hg1; have hb1 := Lib.hid (clone_below hg1); have hw1' := Lib.hid hw1; have q3 := (hb1.out.cell (p := ⟨bx, ox, none⟩) N1).trans h1; clear hw1 hg1) | (go_simp; go_at_call 72; refine (iput_any _ _ _ _ l _ (HZ.out.below hb1.out) hw1'.out OK.out NM.out (by have := HL0.out; have := HL.out; omega)).mono ?_; rintro e w2 ⟨rfl, hi2, hr2⟩; have HI2 := Lib.hid hi2; have HR2 := Lib.hid ((Wr.of_below _ _ _ hb1.out).trans hr2); clear hi2 hr2))
  all_goals
    go_wp2_with fail
    go_ret
    exact ⟨rfl, by rw [HE.out, ← sgn_not]; exact HI2.out, HR2.out⟩
end Go.Proofs.YtokmommlabdcdaaGreatDoor
namespace Go.Proofs.YtokmommlabdcdaaGreatDoor
open Wd Fl Go.RowKit
set_option linter.unusedVariables false
set_option linter.unusedSimpArgs false
theorem clone_below0 {w w1 : World} {T : TypeId} (h : (w.alloc (.cells #[] T)).grownBy w1 (Value.slice (some ⟨w.heap.size, 0, none⟩) 0 0).ownBlock) : Below w.heap.size w w1 :=
  ((Below.refl _ _).alloc (Nat.le_refl _) _).trans ⟨h.os, h.tape, h.output, h.size, fun k hk => h.block k (by simp; omega) (by simp [Value.ownBlock]; omega)⟩
theorem len_small {l : List Nat} (nm : Nm l) (h : blen (val l) ≤ 1000000) : l.length ≤ 4611686018427387904 := by
  have := len_of_blen nm h; omega
theorem sgn_scale (neg : Bool) (l m : List Nat) (k : Nat) (h : val m = val l * k) : sgn neg m = sgn neg l * k := by
  unfold sgn; rw [h]; cases neg <;> simp [Int.neg_mul]
set_option maxRecDepth 100000 in
set_option maxHeartbeats 2000000 in
theorem lsh_any (bz oz bx ox : Nat) (n : Int) (k : Nat) (w : World) (hz : ZAt TW w bz oz 2) (hx : IntAt TW w ⟨bx, ox, none⟩ n) (hn : bl n ≤ 100000) (hk : k ≤ 100000) :
    Calls Tryz.prog 80 #[.pointer (some ⟨bz, oz, none⟩), .pointer (some ⟨bx, ox, none⟩), .int .u64 (k : Int)] w (IntRet TW bz oz (n * ((2 ^ k : Nat) : Int)) w) := by
  obtain ⟨neg, a, cap, l, h1, h2, H3, OK, NM, HN, HE, HK, N1⟩ := IntAt.open hx
  have HZ := Lib.hid hz
  have H3D := Lib.hid (H3.out.below (Below.refl _ w).drew)
  have HL0 := Lib.hid (HK.out _ hn)
  have HB := Lib.hid hn
  have HKK := Lib.hid hk
  have HM : Hid (blen (val l * 2 ^ k) ≤ 1000000) := Lib.hid (by
    have h1 := blen_mul (val l) (2 ^ k)
    rw [blen_pow] at h1
    have h2 : blen (val l) ≤ 100000 := by unfold bl at hn; rw [HE.out, sgn_abs] at hn; exact hn
    omega)
  obtain ⟨r, hr⟩ : ∃ r, n * ((2 ^ k : Nat) : Int) = r := ⟨_, rfl⟩
  rw [hr]
  have HR := Lib.hid hr
  clear hz hx hn hk hr
  generalize hL : l.length = len at *
  have HL := Lib.hid hL
  clear hL
  go_enter Tryz.func80, Tryz.ntmps80
  go_wp2_with fail
  go_region_law (first | (go_simp; go_at_call 99; refine (up_any _ l k w.drew H3D.out OK.out (by have := HL0.out; have := HL.out; omega) (by have := HKK.out; omega)).mono ?_; rintro e w1 ⟨v', l', rfl, hw1, ok1, nm1, hv1, hb1⟩; have HW1 := Lib.hid hw1; have OK1 := Lib.hid ok1; have NM1 := Lib.hid nm1; have HV1 := Lib.hid hv1; have HB1 := Lib.hid ((Below.refl w.heap.size w).drew.trans hb1); have q1 := (HB1.out.cell (p := ⟨bx, ox, none⟩) N1).trans h1; clear hw1 ok1 nm1 hv1 hb1) | (go_simp; go_at_call 72; refine (iput_any _ _ _ _ l' _ (HZ.out.below HB1.out) HW1.out OK1.out NM1.out (len_small NM1.out (by rw [HV1.out]; exact HM.out))).mono ?_; rintro e w2 ⟨rfl, hi2, hr2⟩; have HI2 := Lib.hid hi2; have HR2 := Lib.hid ((Wr.of_below _ _ _ HB1.out).trans hr2); clear hi2 hr2))
  all_goals
    go_wp2_with fail
    go_ret
    exact ⟨rfl, by rw [← HR.out, HE.out, ← sgn_scale _ _ _ _ HV1.out]; exact HI2.out, HR2.out⟩
end Go.Proofs.YtokmommlabdcdaaGreatDoor
namespace Go.Proofs.YtokmommlabdcdaaGreatDoor
open Wd Fl Go.RowKit
set_option linter.unusedVariables false
set_option linter.unusedSimpArgs false
theorem mask32 {x s : Nat} (hx : x < 4294967296) (hs : s < 32) : bits .and .u32 (x : Int) (((2 : Int) ^ s - 1) % 4294967296) = ((x % 2 ^ s : Nat) : Int) := by
  have h1 : 2 ^ s < 2 ^ 32 := Nat.pow_lt_pow_right (by decide) hs
  have h2 : 0 < 2 ^ s := Nat.two_pow_pos s
  have e1 : ((2 : Int) ^ s - 1) % 4294967296 = ((2 ^ s - 1 : Nat) : Int) := by
    rw [show (2 : Int) ^ s = ((2 ^ s : Nat) : Int) by rw [Int.natCast_pow]; rfl]
    generalize 2 ^ s = p at *
    omega
  rw [e1, u32_and_nat _ _ hx (by omega), Nat.and_two_pow_sub_one_eq_mod]
set_option maxRecDepth 100000 in
set_option maxHeartbeats 2000000 in
theorem lowest_any (va : Value) (l : List Nat) (B : Nat) (w : World) (ha : WAt TW w va l) (oa : Ok l) (na : Nm l) (hl : l.length ≤ 1099511627776) (hB : B ≤ 1099511627776) :
    Calls Tryz.prog 122 #[va, .int .u64 (B : Int)] w (WRet (val l % 2 ^ B) w) := by
  obtain ⟨i0, hi0, hz0, hz1, hz2⟩ := info_parts infoW
  obtain ⟨aa, ca, rfl⟩ := ha.slice
  obtain ⟨q, s, hq, hs⟩ : ∃ q s, B = 32 * q + s ∧ s < 32 := ⟨B / 32, B % 32, by omega, by omega⟩
  have eq1 : (B : Int) / 32 = (q : Int) := by omega
  have eq2 : (B : Int) % 32 = (s : Int) := by omega
  have hqI : (q : Int) ≤ 1099511627776 := by omega
  have HB0 : Below w.heap.size w (w.alloc (.cells #[] TW)) := (Below.refl _ _).alloc (Nat.le_refl _) _
  have HO := Lib.hid (World.ownsRow_lit (base := w.heap.size) (e := TW) (size := 1) w #[] 0 (Nat.le_refl _) (by decide) rfl)
  have HL0 := Lib.hid hl
  by_cases hk : l.length ≤ q
  · have hv : val l % 2 ^ B = val l := by rw [hq]; exact low_all oa hk
    rw [hv]
    have hk' : (l.length : Int) ≤ (q : Int) := by omega
    have HW := Lib.hid (ha.below HB0)
    have OA := Lib.hid oa
    have NA := Lib.hid na
    clear ha oa na hq hs hv hB hk eq2 hl HB0
    generalize hL : l.length = len at *
    have HL := Lib.hid hL
    clear hL
    go_enter Tryz.func122, Tryz.ntmps122
    go_wp2_with (at_builtin; refine wpList_clone (by rfl) (.tmp 14) (.tmp 15) 58 (by rfl) TW i0 _ Tryz.underlying58 hi0 hz0 hz1 hz2 rfl w.heap.size (.slice (some ⟨w.heap.size, 0, none⟩) 0 0) (by rfl) HO.out (.slice aa len ca) l (by rfl) HW.out (by have := HL0.out; have := HL.out; omega) (by simp) ?_; intro v' w1 hw1 hg1; have hb1 := Lib.hid (clone_below0 hg1); have hw1' := Lib.hid hw1; clear hw1 hg1)
    go_ret
    exact WRet.mk hw1'.out OA.out NA.out rfl hb1.out
  · have hk' : ¬ (l.length : Int) ≤ (q : Int) := by omega
    obtain ⟨e1, b, off, rfl, hc, ht, hf⟩ := wcell ha (by omega)
    have hta := ha.take (q + 1) (by omega)
    have htl : (l.take (q + 1)).length = q + 1 := by rw [List.length_take]; omega
    have HW := Lib.hid (hta.below HB0)
    have OA := Lib.hid oa
    have hlow := low_words oa (q := q) (s := s) (by omega) hs
    rw [← hq] at hlow
    have HLOW := Lib.hid hlow
    have CQ : Hid ((List.map wv (List.take (q + 1) l))[q]? = some (.int .u32 (l.getD q 0 : Nat))) := Lib.hid (by
      rw [List.getElem?_map, List.getElem?_take, if_pos (by omega), List.getD_eq_getElem?_getD, List.getElem?_eq_getElem (by omega)]; rfl)
    have hxx := oa.get q
    have hxI : (l.getD q 0 : Int) < 4294967296 := by omega
    have HXX := Lib.hid hxx
    clear hxx
    obtain ⟨x, hx⟩ : ∃ x, l.getD q 0 = x := ⟨_, rfl⟩
    rw [hx] at CQ HLOW hxI HXX
    clear hx
    have HTL := Lib.hid htl
    have HSS := Lib.hid hs
    have hsI : (s : Int) < 32 := by omega
    have hcap : (l.length : Int) ≤ (ca : Int) := by omega
    have hqc : (q : Int) + 1 ≤ (ca : Int) := by omega
    have HQL : Hid (q < l.length) := Lib.hid (by omega)
    clear ha oa na hq hs hB hk hl HB0 e1 hc ht hf hta htl hlow
    generalize hL : l.length = len at *
    have HL := Lib.hid hL
    clear hL
    go_enter Tryz.func122, Tryz.ntmps122
    go_wp2_with (at_builtin; refine wpList_clone_own (by rfl) (.tmp 17) (.tmp 21) 58 (by rfl) TW i0 _ Tryz.underlying58 hi0 hz0 hz1 hz2 rfl w.heap.size (.slice (some ⟨w.heap.size, 0, none⟩) 0 0) (by rfl) HO.out (.slice (some ⟨b, off, none⟩) (q + 1) ca) (l.take (q + 1)) (by rfl) HW.out (by have := HL0.out; have := HL.out; have := HTL.out; have := HQL.out; omega) (by simp) ?_; intro v' w1 hw1 hg1; have hb1 := Lib.hid (clone_below0 hg1); rw [HTL.out] at hw1; obtain ⟨g, cap, rfl, hg, hgl⟩ := hw1.form (by omega); have cq := hw1.cellAt q (by omega); rw [CQ.out] at cq; have fq := hw1.frozenAt q; have hw1' := Lib.hid hw1; have HG := Lib.hid hg; clear hw1 hg1 hg hgl)
    rw [mask32 HXX.out HSS.out]
    have st := (hw1'.out.stored q (wv (x % 2 ^ s))).1
    rw [← List.map_set] at st
    have hw2 : WAt TW (w1.setCell ⟨g, q, none⟩ (.int .u32 ((x % 2 ^ s : Nat) : Int))) (.slice (some ⟨g, 0, none⟩) (q + 1) cap) ((l.take (q + 1)).set q (x % 2 ^ s)) := by
      refine WAt.of_own (base := w.heap.size) ?_
      rw [List.length_set, HTL.out]; exact st
    have hb2 : Below w.heap.size w (w1.setCell ⟨g, q, none⟩ (.int .u32 ((x % 2 ^ s : Nat) : Int))) := hb1.out.setCell HG.out _
    have HW2 := Lib.hid hw2
    have HB2 := Lib.hid hb2
    have ok2 : Ok ((l.take (q + 1)).set q (x % 2 ^ s)) := (OA.out.take (q + 1)).set (Nat.lt_of_le_of_lt (Nat.mod_le _ _) HXX.out)
    have OK2 := Lib.hid ok2
    clear st hw2 hb2 ok2
    refine (trimmed_any _ _ _ HW2.out OK2.out (by rw [List.length_set, HTL.out]; omega)).mono ?_
    rintro e w3 ⟨v3, l3, rfl, h3, ok3, nm3, hv3, hb3⟩
    go_wp2_with fail
    go_ret
    exact WRet.mk h3 ok3 nm3 (hv3.trans HLOW.out) (HB2.out.trans (hb3.mono HB2.out.size))
end Go.Proofs.YtokmommlabdcdaaGreatDoor
namespace Go.Proofs.YtokmommlabdcdaaGreatDoor
open Wd Fl Go.RowKit
set_option linter.unusedVariables false
set_option linter.unusedSimpArgs false
/-- quotient and rest, as two lists -/
def DRet (q r : Nat) (w : World) (e : Ending) (w' : World) : Prop := ∃ v1 l1 v2 l2, e = .returned (.tuple #[v1, v2]) ∧ WAt TW w' v1 l1 ∧ Ok l1 ∧ Nm l1 ∧ val l1 = q ∧ WAt TW w' v2 l2 ∧ Ok l2 ∧ Nm l2 ∧ val l2 = r ∧ Below w.heap.size w w'
theorem tz_pow {k t : Nat} (h : TzR (2 ^ k) t) : t = k := by
  rcases h with ⟨h, _⟩ | ⟨h1, h2⟩
  · have := Nat.two_pow_pos k; omega
  · rcases Nat.lt_trichotomy t k with c | c | c
    · obtain ⟨j, rfl⟩ : ∃ j, k = t + (j + 1) := ⟨k - t - 1, by omega⟩
      rw [Nat.pow_add, Nat.mul_div_cancel_left _ (Nat.two_pow_pos t), Nat.pow_succ] at h2
      omega
    · exact c
    · have : 2 ^ k < 2 ^ t := Nat.pow_lt_pow_right (by decide) c
      rw [Nat.mod_eq_of_lt this] at h1
      have := Nat.two_pow_pos k; omega
set_option maxRecDepth 100000 in
set_option maxHeartbeats 4000000 in
theorem divide_lt (va vb : Value) (la lb : List Nat) (w : World) (ha : WAt TW w va la) (hb : WAt TW w vb lb) (oa : Ok la) (ob : Ok lb) (na : Nm la) (nb : Nm lb) (hl : la.length ≤ 1099511627776) (hl2 : lb.length ≤ 1099511627776) (hlt : val la < val lb) :
    Calls Tryz.prog 113 #[va, vb] w (DRet 0 (val la) w) := by
  obtain ⟨i0, hi0, hz0, hz1, hz2⟩ := info_parts infoW
  have HA := Lib.hid ha; have HB := Lib.hid hb; have OA := Lib.hid oa; have OB := Lib.hid ob; have NA := Lib.hid na; have NB := Lib.hid nb; have HL := Lib.hid hl; have HL2 := Lib.hid hl2
  have HC := Lib.hid (cmpI_lt hlt)
  have HN := Lib.hid hlt
  clear ha hb oa ob na nb hl hl2 hlt
  go_enter Tryz.func113, Tryz.ntmps113
  go_wp2_with (first | (go_at_call 51; refine (compare_any _ _ la lb _ HA.out HB.out OA.out OB.out NA.out NB.out (by have := HL.out; omega) (by have := HL2.out; omega)).mono ?_; rintro e w5 ⟨rfl, hb5⟩; rw [HC.out]; have HB5 := Lib.hid hb5; have HA5 := Lib.hid ((HA.out.below hb5).below ((Below.refl w5.heap.size w5).alloc (Nat.le_refl _) (.cells #[] TW))); have HO := Lib.hid (World.ownsRow_lit (base := w5.heap.size) (e := TW) (size := 1) w5 #[] 0 (Nat.le_refl _) (by decide) rfl); clear hb5) | (at_builtin; refine wpList_clone (by rfl) (.tmp 19) (.tmp 20) 58 (by rfl) TW i0 _ Tryz.underlying58 hi0 hz0 hz1 hz2 rfl w5.heap.size (.slice (some ⟨w5.heap.size, 0, none⟩) 0 0) (by rfl) HO.out va la (by rfl) HA5.out HL.out (by simp) ?_; intro v' w1 hw1 hg1; have hb1 := Lib.hid (clone_below0 hg1); have hw1' := Lib.hid hw1; clear hw1 hg1))
  go_ret2
  exact ⟨_, [], _, la, rfl, .inl ⟨rfl, _, _, rfl, fun _ => rfl⟩, .nil, .nil, rfl, hw1'.out, OA.out, NA.out, rfl, HB5.out.trans (hb1.out.mono HB5.out.size)⟩
set_option maxRecDepth 100000 in
set_option maxHeartbeats 4000000 in
theorem divide_pow (va vb : Value) (la lb : List Nat) (k : Nat) (w : World) (ha : WAt TW w va la) (hb : WAt TW w vb lb) (oa : Ok la) (ob : Ok lb) (na : Nm la) (nb : Nm lb) (hl : la.length ≤ 1099511627776) (hl2 : lb.length ≤ 1099511627776) (hlt : val lb ≤ val la) (hk : val lb = 2 ^ k) (hkk : k ≤ 1099511627776) :
    Calls Tryz.prog 113 #[va, vb] w (DRet (val la / 2 ^ k) (val la % 2 ^ k) w) := by
  have hc : ∃ c : Int, cmpI (val la) (val lb) = c ∧ 0 ≤ c := by
    refine ⟨_, rfl, ?_⟩
    unfold cmpI; rw [if_neg (by omega)]; split <;> omega
  obtain ⟨c, hc, hc0⟩ := hc
  have HA := Lib.hid ha; have HB := Lib.hid hb; have OA := Lib.hid oa; have OB := Lib.hid ob; have NA := Lib.hid na; have NB := Lib.hid nb; have HL := Lib.hid hl; have HL2 := Lib.hid hl2
  have HC := Lib.hid hc
  have HK := Lib.hid hk
  have HBL : Hid (((blen (val lb) : Nat) : Int) = (k : Int) + 1) := Lib.hid (by rw [hk, blen_pow]; omega)
  have HKK := Lib.hid hkk
  have hkI : (k : Int) ≤ 1099511627776 := by omega
  obtain ⟨Q, hQ⟩ : ∃ Q, val la / 2 ^ k = Q := ⟨_, rfl⟩
  obtain ⟨R, hR⟩ : ∃ R, val la % 2 ^ k = R := ⟨_, rfl⟩
  rw [hQ, hR]
  have HQ := Lib.hid hQ
  have HR := Lib.hid hR
  clear ha hb oa ob na nb hl hl2 hlt hc hk hkk hQ hR
  go_enter Tryz.func113, Tryz.ntmps113
  go_wp2_with (first | (go_at_call 51; refine (compare_any _ _ la lb _ HA.out HB.out OA.out OB.out NA.out NB.out (by have := HL.out; omega) (by have := HL2.out; omega)).mono ?_; rintro e w5 ⟨rfl, hb5⟩; rw [HC.out]; have HB5 := Lib.hid hb5; have HA5 := Lib.hid (HA.out.below hb5); have HBB5 := Lib.hid (HB.out.below hb5); clear hb5) | (go_at_call 110; refine (ends_any _ lb _ HBB5.out OB.out HL2.out).mono ?_; rintro e w6 ⟨t, rfl, ht, rfl⟩; rw [HK.out] at ht; obtain rfl := tz_pow ht; clear ht) | (go_at_call 116; refine (bits_any _ lb _ HBB5.out OB.out NB.out HL2.out).mono ?_; rintro e w6 ⟨rfl, rfl⟩; rw [HBL.out]) | (go_at_call 112; refine (right_any _ la t _ HA5.out OA.out HL.out HKK.out).mono ?_; rintro e w7 ⟨v', l', rfl, hw1, ok1, nm1, hv1, hb1⟩; have HW1 := Lib.hid hw1; have OK1 := Lib.hid ok1; have NM1 := Lib.hid nm1; have HV1 := Lib.hid hv1; have HB7 := Lib.hid (HB5.out.trans (hb1.mono HB5.out.size)); have HA7 := Lib.hid (HA5.out.below hb1); clear hw1 ok1 nm1 hv1 hb1) | (go_at_call 122; refine (lowest_any _ la t _ HA7.out OA.out NA.out HL.out HKK.out).mono ?_; rintro e w8 ⟨v2, l2, rfl, hw1, ok1, nm1, hv1, hb1⟩; have HW2 := Lib.hid hw1; have OK2 := Lib.hid ok1; have NM2 := Lib.hid nm1; have HV2 := Lib.hid hv1; have HB8 := Lib.hid (HB7.out.trans (hb1.mono HB7.out.size)); have HW18 := Lib.hid (HW1.out.below hb1); clear hw1 ok1 nm1 hv1 hb1))
  go_ret2
  exact ⟨_, _, _, _, rfl, HW18.out, OK1.out, NM1.out, HV1.out.trans HQ.out, HW2.out, OK2.out, NM2.out, HV2.out.trans HR.out, HB8.out⟩
end Go.Proofs.YtokmommlabdcdaaGreatDoor
namespace Go.Proofs.YtokmommlabdcdaaGreatDoor
open Wd Fl Go.RowKit
set_option linter.unusedVariables false
set_option linter.unusedSimpArgs false
/-- the lists' division, of two sizes -/
def DivC (a b : Nat) : Prop := ∀ (va vb : Value) (la lb : List Nat) (w : World), WAt TW w va la → WAt TW w vb lb → Ok la → Ok lb → Nm la → Nm lb → la.length ≤ 1099511627776 → lb.length ≤ 1099511627776 → val la = a → val lb = b →
  Calls Tryz.prog 113 #[va, vb] w (DRet (a / b) (a % b) w)
theorem DivC.lt {a b : Nat} (h : a < b) : DivC a b := fun va vb la lb w h1 h2 h3 h4 h5 h6 h7 h8 h9 h10 => by
  have := divide_lt va vb la lb w h1 h2 h3 h4 h5 h6 h7 h8 (by omega)
  rw [Nat.div_eq_of_lt h, Nat.mod_eq_of_lt h, ← h9]; exact this
theorem DivC.pow {a : Nat} (k : Nat) (hk : k ≤ 1099511627776) : DivC a (2 ^ k) := by
  by_cases h : a < 2 ^ k
  · exact DivC.lt h
  · intro va vb la lb w h1 h2 h3 h4 h5 h6 h7 h8 h9 h10
    have := divide_pow va vb la lb k w h1 h2 h3 h4 h5 h6 h7 h8 (by omega) h10 hk
    rw [h9] at this; exact this
theorem sgn_tdiv (p q : Bool) (l m r : List Nat) (h : val r = val l / val m) : sgn (p != q) r = (sgn p l).tdiv (sgn q m) := by
  unfold sgn; rw [h]; cases p <;> cases q <;> simp [Int.neg_tdiv, Int.tdiv_neg, Int.ofNat_tdiv]
theorem sgn_tmod (p q : Bool) (l m r : List Nat) (h : val r = val l % val m) : sgn p r = (sgn p l).tmod (sgn q m) := by
  unfold sgn; rw [h, Int.ofNat_tmod]; cases p <;> cases q <;> simp [Int.neg_tmod, Int.tmod_neg]
/-- two numbers are written -/
def QRet (bz oz br or : Nat) (q r : Int) (w : World) (e : Ending) (w' : World) : Prop :=
  e = .returned (.tuple #[.pointer (some ⟨bz, oz, none⟩), .pointer (some ⟨br, or, none⟩)]) ∧ IntAt TW w' ⟨bz, oz, none⟩ q ∧ IntAt TW w' ⟨br, or, none⟩ r ∧ ∃ w1, Wr br or (or + 2) w w1 ∧ Wr bz oz (oz + 2) w1 w'
set_option maxRecDepth 100000 in
set_option maxHeartbeats 4000000 in
theorem quoRem_any (bz oz bx ox bY oY br or : Nat) (n m : Int) (w : World) (hz : ZAt TW w bz oz 2) (hzr : ZAt TW w br or 2) (hne : bz ≠ br) (hx : IntAt TW w ⟨bx, ox, none⟩ n) (hy : IntAt TW w ⟨bY, oY, none⟩ m) (hn : bl n ≤ 100000) (hm : bl m ≤ 100000) (hd : DivC n.natAbs m.natAbs) :
    Calls Tryz.prog 101 #[.pointer (some ⟨bz, oz, none⟩), .pointer (some ⟨bx, ox, none⟩), .pointer (some ⟨bY, oY, none⟩), .pointer (some ⟨br, or, none⟩)] w (QRet bz oz br or (n.tdiv m) (n.tmod m) w) := by
  obtain ⟨neg, a, cap, l, h1, h2, H3, OK, NM, HN, HE, HK, N1⟩ := IntAt.open hx
  obtain ⟨neg2, a2, cap2, l2, h12, h22, H32, OK2, NM2, HN2, HE2, HK2, N12⟩ := IntAt.open hy
  have HZ := Lib.hid hz
  have HZR := Lib.hid hzr
  have HNE := Lib.hid hne
  have HL0 := Lib.hid (HK.out _ hn)
  have HL02 := Lib.hid (HK2.out _ hm)
  have e1 : n.natAbs = val l := by rw [HE.out, sgn_abs]
  have e2 : m.natAbs = val l2 := by rw [HE2.out, sgn_abs]
  have b1 : blen (val l) ≤ 100000 := by rw [← e1]; exact hn
  rw [e1, e2] at hd
  have HD := Lib.hid (fun va vb w h1 h2 => hd va vb l l2 w h1 h2 OK.out OK2.out NM.out NM2.out (by have := HL0.out; omega) (by have := HL02.out; omega) rfl rfl)
  have HMQ : Hid (blen (val l / val l2) ≤ 1000000) := Lib.hid (by have := blen_mono (Nat.div_le_self (val l) (val l2)); omega)
  have HMR : Hid (blen (val l % val l2) ≤ 1000000) := Lib.hid (by have := blen_mono (Nat.mod_le (val l) (val l2)); omega)
  obtain ⟨q, hq⟩ : ∃ q, n.tdiv m = q := ⟨_, rfl⟩
  obtain ⟨r, hr⟩ : ∃ r, n.tmod m = r := ⟨_, rfl⟩
  rw [hq, hr]
  have HQ := Lib.hid hq
  have HR := Lib.hid hr
  have H3D := Lib.hid (H3.out.below (Below.refl _ w).drew)
  have H3D2 := Lib.hid (H32.out.below (Below.refl _ w).drew)
  clear hz hzr hne hx hy hn hm hd hq hr e1 e2 b1
  generalize hL : l.length = len at *
  have HL := Lib.hid hL
  clear hL
  generalize hL : l2.length = len2 at *
  have HL2 := Lib.hid hL
  clear hL
  go_enter Tryz.func101, Tryz.ntmps101
  go_wp2_with fail
  go_region_law (go_simp; go_at_call 113; refine (HD.out _ _ w.drew H3D.out H3D2.out).mono ?_; rintro e w5 ⟨v1, l5, v2, l6, rfl, hw1, ok1, nm1, hv1, hw2, ok2, nm2, hv2, hb5⟩; have HW1 := Lib.hid hw1; have OK5 := Lib.hid ok1; have NM5 := Lib.hid nm1; have HV5 := Lib.hid hv1; have HW2 := Lib.hid hw2; have OK6 := Lib.hid ok2; have NM6 := Lib.hid nm2; have HV6 := Lib.hid hv2; have HB5 := Lib.hid ((Below.refl w.heap.size w).drew.trans hb5); clear hw1 ok1 nm1 hv1 hw2 ok2 nm2 hv2 hb5)
  all_goals
    have g1 := (HB5.out.cell (p := ⟨bx, ox, none⟩) N1).trans h1
    have g12 := (HB5.out.cell (p := ⟨bY, oY, none⟩) N12).trans h12
    go_wp2_with fail
    go_quiet (fail)
    have HB6 := Lib.hid (below_drewN HB5.out nq)
    have Z6 := Lib.hid (HZR.out.below HB6.out)
    have W6 := Lib.hid (HW2.out.below (below_drewN (Below.refl _ w5) nq))
    have HZ6 := Lib.hid (HZ.out.below HB6.out)
    have W61 := Lib.hid (HW1.out.below (below_drewN (Below.refl _ w5) nq))
    go_wp2_with fail
    refine (iput_any _ _ _ _ l6 _ Z6.out W6.out OK6.out NM6.out (len_small NM6.out (by rw [HV6.out]; exact HMR.out))).mono ?_
    rintro e w7 ⟨rfl, hi7, hr7⟩
    have HI7 := Lib.hid hi7
    have HW7 := Lib.hid (W61.out.wr hr7 Z6.out)
    have HZ7 := Lib.hid (HZ6.out.wr hr7)
    have HR7 := Lib.hid hr7
    clear hi7 hr7
    go_wp2_with fail
    refine (iput_any _ _ _ _ l5 _ HZ7.out HW7.out OK5.out NM5.out (len_small NM5.out (by rw [HV5.out]; exact HMQ.out))).mono ?_
    rintro e w8 ⟨rfl, hi8, hr8⟩
    have HI8 := Lib.hid hi8
    have HR8 := Lib.hid hr8
    have HI78 := Lib.hid (HI7.out.wr hr8 HZ7.out (.inl (Ne.symm HNE.out)))
    clear hi8 hr8
    go_wp2_with fail
    go_ret2
    exact ⟨rfl, by rw [← HQ.out, HE.out, HE2.out, ← sgn_tdiv _ _ _ _ _ HV5.out]; exact HI8.out, by rw [← HR.out, HE.out, HE2.out, ← sgn_tmod _ neg2 _ l2 _ HV6.out]; exact HI78.out, w7, (Wr.of_below _ _ _ HB6.out).trans HR7.out, HR8.out⟩
set_option maxRecDepth 100000 in
set_option maxHeartbeats 4000000 in
theorem quo_any (bz oz bx ox bY oY : Nat) (n m : Int) (w : World) (hz : ZAt TW w bz oz 2) (hx : IntAt TW w ⟨bx, ox, none⟩ n) (hy : IntAt TW w ⟨bY, oY, none⟩ m) (hn : bl n ≤ 100000) (hm : bl m ≤ 100000) (hd : DivC n.natAbs m.natAbs) :
    Calls Tryz.prog 83 #[.pointer (some ⟨bz, oz, none⟩), .pointer (some ⟨bx, ox, none⟩), .pointer (some ⟨bY, oY, none⟩)] w (IntRet TW bz oz (n.tdiv m) w) := by
  have hB : Below w.heap.size w (w.alloc (.cells #[.bool false, .slice none 0 0] 60)) := (Below.refl w.heap.size w).alloc (Nat.le_refl _) _
  have HQ := Lib.hid (quoRem_any bz oz bx ox bY oY w.heap.size 0 n m _ (hz.below hB) (ZAt.new TW w #[.bool false, .slice none 0 0] 60 (by decide) 2 (by decide)) (Nat.ne_of_lt hz.lt) (hx.below hB) (hy.below hB) hn hm hd)
  have HZ := Lib.hid hz
  have HB := Lib.hid hB
  clear hz hx hy hn hm hd hB
  obtain ⟨q, hq⟩ : ∃ q, n.tdiv m = q := ⟨_, rfl⟩
  rw [hq] at HQ ⊢
  clear hq
  go_enter Tryz.func83, Tryz.ntmps83
  go_wp2_with (go_at_call 101; refine HQ.out.mono ?_; rintro e w8 ⟨rfl, hi, _, w7, hr, hs⟩; have HI := Lib.hid hi; have HR := Lib.hid ((Wr.of_below bz oz (oz + 2) (HB.out.trans (hr.below (Nat.le_refl _) (by simp)))).trans hs); clear hi hr hs)
  go_ret
  exact ⟨rfl, HI.out, HR.out⟩
end Go.Proofs.YtokmommlabdcdaaGreatDoor
namespace Go.Proofs.YtokmommlabdcdaaGreatDoor
open Wd Fl Go.RowKit
set_option linter.unusedVariables false
set_option linter.unusedSimpArgs false
def sigI (n : Int) : Int := if n < 0 then -1 else if n = 0 then 0 else 1
theorem sigI_of {neg : Bool} {l : List Nat} (nm : Nm l) : sigI (sgn neg l) = if l = [] then 0 else if neg then -1 else 1 := by
  unfold sigI sgn
  by_cases h : l = []
  · subst h; simp [val]
  · have := nm.pos h
    rw [if_neg h]
    cases neg
    · simp; omega
    · simp; omega
set_option maxRecDepth 100000 in
set_option maxHeartbeats 2000000 in
theorem isign_any (bx ox : Nat) (n : Int) (w : World) (hx : IntAt TW w ⟨bx, ox, none⟩ n) (hn : bl n ≤ 100000) :
    Calls Tryz.prog 15 #[.pointer (some ⟨bx, ox, none⟩)] w fun e w' => e = .returned (.int .i64 (sigI n)) ∧ w = w' := by
  obtain ⟨neg, a, cap, l, h1, h2, H3, OK, NM, HN, HE, HK, N1⟩ := IntAt.open hx
  have HS := Lib.hid (sigI_of (neg := neg) NM.out)
  rw [← HE.out] at HS
  clear hx hn
  by_cases h0 : l = []
  · have h9 : sigI n = 0 := by rw [HS.out, if_pos h0]
    rw [h9]
    subst h0
    simp only [List.length_nil] at h2
    go_enter Tryz.func15, Tryz.ntmps15
    go_wp2
    go_ret
    exact ⟨rfl, rfl⟩
  · have h9 : sigI n = if neg then -1 else 1 := by rw [HS.out, if_neg h0]
    have hl : ¬ l.length = 0 := fun h => h0 (List.eq_nil_of_length_eq_zero h)
    have hlI : (((l.length : Nat) : Int) == 0) = false := by rw [beq_eq_false_iff_ne]; omega
    clear h0 H3 OK NM HN HK HS
    generalize l.length = len at *
    cases neg
    all_goals
      simp only [if_true, if_false, Bool.false_eq_true] at h9
      rw [h9]
      clear h9
      go_enter Tryz.func15, Tryz.ntmps15
      go_wp2
      go_ret
      exact ⟨rfl, rfl⟩
theorem sgn_one {neg : Bool} {l : List Nat} (ok : Ok l) (nm : Nm l) : sgn neg l = 1 ↔ l = [1] ∧ neg = false := by
  unfold sgn
  have h1 : Ok [1] := .cons (by decide) .nil
  have h2 : Nm [1] := by unfold Nm; simp
  cases neg
  · simp only [Bool.false_eq_true, if_false, and_true]
    constructor
    · intro h; exact val_inj ok h1 nm h2 (by rw [val_single]; omega)
    · rintro rfl; rfl
  · simp; omega
set_option maxRecDepth 100000 in
set_option maxHeartbeats 2000000 in
theorem one_any (bx ox : Nat) (n : Int) (w : World) (hx : IntAt TW w ⟨bx, ox, none⟩ n) (hn : bl n ≤ 100000) :
    Calls Tryz.prog 82 #[.pointer (some ⟨bx, ox, none⟩)] w fun e w' => e = .returned (.bool (decide (n = 1))) ∧ w = w' := by
  obtain ⟨neg, a, cap, l, h1, h2, H3, OK, NM, HN, HE, HK, N1⟩ := IntAt.open hx
  have HS := Lib.hid (sgn_one (neg := neg) OK.out NM.out)
  rw [← HE.out] at HS
  clear hx hn
  by_cases h0 : l.length = 1
  · obtain ⟨x, rfl⟩ := List.length_eq_one_iff.1 h0
    obtain ⟨_, b, off, rfl, hc, ht, hf⟩ := wcell H3.out (by simp)
    have hf0 := hf 0 (by simp)
    simp only [List.length_singleton, Nat.add_zero, List.getD_cons_zero] at h2 hf0 hc
    have hcI : (1 : Int) ≤ (cap : Int) := by omega
    have hx4 : x < 4294967296 := OK.out x (by simp)
    clear hf ht hc H3 OK NM HN HK h0
    by_cases hx1 : x = 1
    · subst hx1
      have h9 : decide (n = 1) = !neg := by
        cases neg
        · simp [HS.out]
        · simp [HS.out]
      rw [h9]
      clear h9 HS hx4
      go_enter Tryz.func82, Tryz.ntmps82
      go_wp2
      go_ret
      exact ⟨rfl, rfl⟩
    · have h9 : decide (n = 1) = false := by
        refine decide_eq_false fun h => ?_
        have := (HS.out.1 h).1
        injection this with h _
        exact hx1 h
      have hxI : (((x : Nat) : Int) == 1) = false := by rw [beq_eq_false_iff_ne]; omega
      rw [h9]
      clear h9 HS hx1
      go_enter Tryz.func82, Tryz.ntmps82
      go_wp2
      go_ret
      exact ⟨rfl, rfl⟩
  · have h9 : decide (n = 1) = false := by
      refine decide_eq_false fun h => ?_
      have := (HS.out.1 h).1
      subst this
      exact h0 rfl
    have hlI : (((l.length : Nat) : Int) == 1) = false := by rw [beq_eq_false_iff_ne]; omega
    rw [h9]
    clear h9 HS h0 H3 OK NM HN HK
    generalize l.length = len at *
    go_enter Tryz.func82, Tryz.ntmps82
    go_wp2
    go_ret
    exact ⟨rfl, rfl⟩
theorem lit2 (w : World) (a b : Nat) : WAt TW (w.alloc (.cells #[.int .u32 (a : Int), .int .u32 (b : Int)] TW)) (.slice (some ⟨w.heap.size, 0, none⟩) 2 2) [a, b] :=
  WAt.of_own (base := w.heap.size) (World.ownsRow_lit (size := 1) w _ 2 (Nat.le_refl _) (by decide) rfl)
theorem lit2' (w : World) (x : Nat) : WAt TW (w.alloc (.cells #[.int .u32 ((x : Int) % 4294967296), .int .u32 ((x : Int) / 4294967296)] TW)) (.slice (some ⟨w.heap.size, 0, none⟩) 2 2) [x % 4294967296, x / 4294967296] := by
  have := lit2 w (x % 4294967296) (x / 4294967296)
  rwa [show ((x % 4294967296 : Nat) : Int) = (x : Int) % 4294967296 by omega, show ((x / 4294967296 : Nat) : Int) = (x : Int) / 4294967296 by omega] at this
set_option maxRecDepth 100000 in
set_option maxHeartbeats 2000000 in
theorem setUint64_any (bz oz : Nat) (x : Nat) (w : World) (hz : ZAt TW w bz oz 2) (hx : x < 18446744073709551616) :
    Calls Tryz.prog 89 #[.pointer (some ⟨bz, oz, none⟩), .int .u64 (x : Int)] w (IntRet TW bz oz (x : Int) w) := by
  have hxI : (x : Int) < 18446744073709551616 := by omega
  have HZ := Lib.hid hz
  have HW := Lib.hid (lit2' w x)
  have hv : val [x % 4294967296, x / 4294967296] = x := by simp [val]; omega
  have ok : Ok [x % 4294967296, x / 4294967296] := .cons (by omega) (.cons (by omega) .nil)
  have HV := Lib.hid hv
  have OK := Lib.hid ok
  have HB0 := Lib.hid ((Below.refl w.heap.size w).alloc (Nat.le_refl _) (.cells #[.int .u32 ((x : Int) % 4294967296), .int .u32 ((x : Int) / 4294967296)] TW))
  clear hz hv ok
  go_enter Tryz.func89, Tryz.ntmps89
  go_wp2_with (first | (go_at_call 98; refine (trimmed_any _ [x % 4294967296, x / 4294967296] _ HW.out OK.out (by simp)).mono ?_; rintro e w1 ⟨v', l', rfl, hw1, ok1, nm1, hv1, hb1⟩; rw [HV.out] at hv1; have HW1 := Lib.hid hw1; have OK1 := Lib.hid ok1; have NM1 := Lib.hid nm1; have HV1 := Lib.hid hv1; have HB1 := Lib.hid (HB0.out.trans (hb1.mono (by simp))); clear hw1 ok1 nm1 hv1 hb1) | (go_at_call 72; refine (iput_any _ _ _ _ l' _ (HZ.out.below HB1.out) HW1.out OK1.out NM1.out (len_small NM1.out (by rw [HV1.out]; exact Nat.le_trans (blen_of_lt (k := 64) hx) (by omega)))).mono ?_; rintro e w2 ⟨rfl, hi2, hr2⟩; have HI2 := Lib.hid hi2; have HR2 := Lib.hid ((Wr.of_below _ _ _ HB1.out).trans hr2); clear hi2 hr2))
  go_ret
  refine ⟨rfl, ?_, HR2.out⟩
  have := HI2.out
  unfold sgn at this
  rw [HV1.out] at this
  exact this
set_option maxRecDepth 100000 in
set_option maxHeartbeats 2000000 in
theorem setInt64_any (bz oz : Nat) (x : Int) (w : World) (hz : ZAt TW w bz oz 2) (h1 : -9223372036854775808 ≤ x) (h2 : x < 9223372036854775808) :
    Calls Tryz.prog 86 #[.pointer (some ⟨bz, oz, none⟩), .int .i64 x] w (IntRet TW bz oz x w) := by
  have HZ := Lib.hid hz
  clear hz
  by_cases h0 : 0 ≤ x
  · obtain ⟨m, rfl⟩ : ∃ m : Nat, x = m := ⟨x.toNat, by omega⟩
    have hm : m < 18446744073709551616 := by omega
    go_enter Tryz.func86, Tryz.ntmps86
    go_wp2_with (go_at_call 89; refine (setUint64_any _ _ m _ HZ.out hm).mono ?_; rintro e w2 ⟨rfl, hi2, hr2⟩; have HI2 := Lib.hid hi2; have HR2 := Lib.hid hr2; clear hi2 hr2)
    go_ret
    exact ⟨rfl, HI2.out, HR2.out⟩
  · have h3 : x < 0 := by omega
    clear h0
    have hm : (-x).toNat < 18446744073709551616 := by omega
    have hme : (((-x).toNat : Nat) : Int) = -x := by omega
    have HM := Lib.hid hm
    have HME := Lib.hid hme
    clear hm hme
    go_enter Tryz.func86, Tryz.ntmps86
    go_wp2_with (go_at_call 89; rw [show -(x + 1) + 1 = (((-x).toNat : Nat) : Int) from by have := HME.out; omega]; refine (setUint64_any _ _ (-x).toNat _ HZ.out HM.out).mono ?_; rintro e w2 ⟨rfl, hi2, hr2⟩; have z2 := hi2.z; obtain ⟨u2, c2⟩ := z2.cell oz (by omega); have f2 := z2.frozen oz; rw [HME.out] at hi2; have HI2 := Lib.hid (hi2.turn (by omega)); have HR2 := Lib.hid (hr2.trans (Wr.set (o := oz) (.bool true) (Nat.le_refl _) (by omega))); clear hi2 hr2 z2)
    go_ret
    exact ⟨rfl, by have := HI2.out; rwa [Int.neg_neg] at this, HR2.out⟩
def IntNew (n : Int) (w : World) (e : Ending) (w' : World) : Prop := NewRet TW n w e w'
set_option maxRecDepth 100000 in
set_option maxHeartbeats 2000000 in
theorem newInt_any (x : Int) (w : World) (h1 : -9223372036854775808 ≤ x) (h2 : x < 9223372036854775808) :
    Calls Tryz.prog 57 #[.int .i64 x] w (NewRet TW x w) := by
  have HZ := Lib.hid (ZAt.new TW w #[.bool false, .slice none 0 0] 60 (by decide) 2 (by decide))
  have HB := Lib.hid ((Below.refl w.heap.size w).alloc (Nat.le_refl _) (.cells #[.bool false, .slice none 0 0] 60))
  have H1 := Lib.hid h1
  have H2 := Lib.hid h2
  clear h1 h2
  go_enter Tryz.func57, Tryz.ntmps57
  go_wp2_with (go_at_call 86; refine (setInt64_any _ _ x _ HZ.out H1.out H2.out).mono ?_; rintro e w2 ⟨rfl, hi2, hr2⟩; have HI2 := Lib.hid hi2; have HR2 := Lib.hid (HB.out.trans (hr2.below (Nat.le_refl _) (by simp))); clear hi2 hr2)
  go_ret
  exact ⟨_, rfl, Nat.le_refl _, HI2.out, HR2.out⟩
end Go.Proofs.YtokmommlabdcdaaGreatDoor
namespace Go.Proofs.YtokmommlabdcdaaGreatDoor
open Wd Fl Go.RowKit
set_option linter.unusedVariables false
set_option linter.unusedSimpArgs false
set_option maxRecDepth 100000 in
set_option maxHeartbeats 4000000 in
theorem word64_any (va : Value) (l : List Nat) (w : World) (ha : WAt TW w va l) (oa : Ok l) (hl : l.length ≤ 2) :
    Calls Tryz.prog 120 #[va] w fun e w' => e = .returned (.int .u64 (val l : Nat)) ∧ w = w' := by
  obtain ⟨aa, ca, rfl⟩ := ha.slice
  match l, hl with
  | [], _ =>
    clear ha oa
    go_enter Tryz.func120, Tryz.ntmps120
    go_wp2
    go_ret
    exact ⟨rfl, rfl⟩
  | [x], _ =>
    obtain ⟨_, b, off, rfl, hc, ht, hf⟩ := wcell ha (by simp)
    have hf0 := hf 0 (by simp)
    simp only [List.length_singleton, Nat.add_zero, List.getD_cons_zero] at hf0 hc
    have hx := oa x (by simp)
    have hxI : (x : Int) < 4294967296 := by omega
    have hcI : (1 : Int) ≤ (ca : Int) := by omega
    rw [val_single]
    clear ha oa hf ht hc hx
    go_enter Tryz.func120, Tryz.ntmps120
    go_wp2
    go_ret
    exact ⟨rfl, rfl⟩
  | [x, y], _ =>
    obtain ⟨_, b, off, rfl, hc, ht, hf⟩ := wcell ha (by simp)
    have hf0 := hf 0 (by simp)
    have hf1 := hf 1 (by simp)
    simp only [List.length_cons, List.length_nil, Nat.zero_add, Nat.add_zero, List.getD_cons_zero, List.getD_cons_succ] at hf0 hf1 hc
    have hx := oa x (by simp)
    have hy := oa y (by simp)
    have hxI : (x : Int) < 4294967296 := by omega
    have hyI : (y : Int) < 4294967296 := by omega
    have hcI : (2 : Int) ≤ (ca : Int) := by omega
    obtain ⟨v, hv⟩ : ∃ v, val [x, y] = v := ⟨_, rfl⟩
    have hv2 : v = x + 4294967296 * y := by rw [← hv]; simp [val]
    rw [hv]
    have HV := Lib.hid hv2
    have HX := Lib.hid hx
    have HY := Lib.hid hy
    clear ha oa hf ht hc hx hy hv hv2
    go_enter Tryz.func120, Tryz.ntmps120
    go_wp2
    go_ret
    refine ⟨ret_int ?_, rfl⟩
    have h := u64_or_nat x (y * 4294967296) (by have := HX.out; omega) (by have := HY.out; omega)
    rw [Int.natCast_mul] at h
    rw [show ((4294967296 : Nat) : Int) = 4294967296 from rfl] at h
    rw [h, Nat.or_comm, nat_join 32 _ _ (by omega) HX.out, HV.out]
    omega
theorem val_lt64 {l : List Nat} (nm : Nm l) (h : val l < 18446744073709551616) : l.length ≤ 2 := length_le nm h
theorem gcd_step {x y G : Nat} (h : Nat.gcd x y = G) : Nat.gcd y (x % y) = G := by rw [← h, Nat.gcd_comm x y, Nat.gcd_rec y x, Nat.gcd_comm]
set_option maxRecDepth 100000 in
set_option maxHeartbeats 8000000 in
theorem odd_any (va vb : Value) (la lb : List Nat) (w : World) (ha : WAt TW w va la) (hb : WAt TW w vb lb) (oa : Ok la) (ob : Ok lb) (na : Nm la) (nb : Nm lb) (hl : la.length ≤ 1099511627776) (hl2 : lb.length ≤ 1099511627776)
    (ha0 : val la ≠ 0) (hb0 : val lb ≠ 0) (hs : val la = 1 ∨ val lb = 1 ∨ (val la < 18446744073709551616 ∧ val lb < 18446744073709551616)) :
    Calls Tryz.prog 111 #[va, vb] w (WRet (Nat.gcd (val la) (val lb)) w) := by
  have hcase : ∃ (c : Int) (L S : List Nat) (vL vS : Value), cmpI (val la) (val lb) = c ∧ ((0 ≤ c ∧ L = la ∧ S = lb ∧ vL = va ∧ vS = vb) ∨ (c < 0 ∧ L = lb ∧ S = la ∧ vL = vb ∧ vS = va)) ∧ val S ≤ val L := by
    rcases Nat.lt_or_ge (val la) (val lb) with h | h
    · exact ⟨_, lb, la, vb, va, rfl, .inr ⟨by rw [cmpI_lt h]; decide, rfl, rfl, rfl, rfl⟩, by omega⟩
    · exact ⟨_, la, lb, va, vb, rfl, .inl ⟨by unfold cmpI; rw [if_neg (by omega)]; split <;> decide, rfl, rfl, rfl, rfl⟩, h⟩
  obtain ⟨c, L, S, vL, vS, hc, hcs, hSL⟩ := hcase
  have HC := Lib.hid hc
  have HA := Lib.hid ha; have HB := Lib.hid hb; have OA := Lib.hid oa; have OB := Lib.hid ob; have NA := Lib.hid na; have NB := Lib.hid nb; have HL := Lib.hid hl; have HL2 := Lib.hid hl2
  have hx : WAt TW w vL L ∧ WAt TW w vS S ∧ Ok L ∧ Ok S ∧ Nm L ∧ Nm S ∧ L.length ≤ 1099511627776 ∧ val S ≠ 0 ∧ (val S = 1 ∨ (val L < 18446744073709551616 ∧ val S < 18446744073709551616)) ∧ Nat.gcd (val la) (val lb) = Nat.gcd (val L) (val S) := by
    rcases hcs with ⟨_, rfl, rfl, rfl, rfl⟩ | ⟨_, rfl, rfl, rfl, rfl⟩
    · exact ⟨ha, hb, oa, ob, na, nb, hl, hb0, by omega, rfl⟩
    · exact ⟨hb, ha, ob, oa, nb, na, hl2, ha0, by omega, Nat.gcd_comm _ _⟩
  obtain ⟨hL, hS, oL, oS, nL, nS, hlL, hS0, hS1, hG⟩ := hx
  rw [hG]
  have hlS : S.length ≤ 2 := val_lt64 nS (by omega)
  have hS9 : S ≠ [] := by rintro rfl; exact hS0 rfl
  have hlS0 : 0 < S.length := List.length_pos_iff.2 hS9
  obtain ⟨aL, cL, rfl⟩ := hL.slice
  obtain ⟨aS, cS, rfl⟩ := hS.slice
  obtain ⟨G, hGd⟩ : ∃ G, Nat.gcd (val L) (val S) = G := ⟨_, rfl⟩
  rw [hGd]
  have HGD := Lib.hid hGd
  have XL := Lib.hid hL; have XS := Lib.hid hS; have OL := Lib.hid oL; have OS := Lib.hid oS; have NL := Lib.hid nL; have NS := Lib.hid nS; have LL := Lib.hid hlL; have HS0 := Lib.hid hS0; have HS1 := Lib.hid hS1; have LS := Lib.hid hlS
  have hlLI : (L.length : Int) ≤ 1099511627776 := by omega
  have hlSI : (S.length : Int) ≤ 2 := by omega
  have hlSI0 : 0 < (S.length : Int) := by omega
  have hlSb : (((S.length : Nat) : Int) == 0) = false := by rw [beq_eq_false_iff_ne]; omega
  have HSL := Lib.hid hSL
  have GP : Hid (0 < G ∧ G < 18446744073709551616) := Lib.hid (by
    rw [← hGd]
    refine ⟨Nat.gcd_pos_of_pos_right _ (by omega), Nat.lt_of_le_of_lt (Nat.gcd_le_right _ (by omega)) (by omega)⟩)
  clear ha hb oa ob na nb hl hl2 ha0 hb0 hs hc hL hS oL oS nL nS hlL hS0 hS1 hG hlS hS9 hlS0 hSL hGd
  rcases hcs with ⟨hc0, rfl, rfl, rfl, rfl⟩ | ⟨hc0, rfl, rfl, rfl, rfl⟩
  all_goals
    generalize hq1 : L.length = lenL at *
    have Q1 := Lib.hid hq1
    clear hq1
    generalize hq1 : S.length = lenS at *
    have Q2 := Lib.hid hq1
    clear hq1
    go_enter Tryz.func111, Tryz.ntmps111
    go_wp2_with (go_at_call 51; refine (compare_any _ _ _ _ _ HA.out HB.out OA.out OB.out NA.out NB.out (by have := HL.out; have := Q1.out; have := Q2.out; omega) (by have := HL2.out; have := Q1.out; have := Q2.out; omega)).mono ?_; rintro e w5 ⟨rfl, hb5⟩; rw [HC.out]; have HB5 := Lib.hid hb5; have XL5 := Lib.hid (XL.out.below hb5); have XS5 := Lib.hid (XS.out.below hb5); clear hb5)
    refine wp_loop_rounds 1 ?_
    rw [rounds_succ]
    by_cases h2 : 2 < lenL
    · have h2I : (2 : Int) < (lenL : Int) := by omega
      have hL64 : ¬ val L < 18446744073709551616 := fun c => by have := val_lt64 NL.out c; have := Q1.out; omega
      have hS1 : val S = 1 := by have := HS1.out; omega
      have hG1 : G = 1 := by rw [← HGD.out, hS1, Nat.gcd_one_right]
      have HG1 := Lib.hid hG1
      have HS11 := Lib.hid hS1
      clear hL64 hS1 hG1 h2
      go_wp2_with fail
      refine (divide_pow _ _ L S 0 _ XL5.out XS5.out OL.out OS.out NL.out NS.out (by have := LL.out; have := Q1.out; omega) (by have := LS.out; have := Q2.out; omega) HSL.out (by rw [HS11.out]) (by omega)).mono ?_
      rintro e w6 ⟨v1, l5, v2, l6, rfl, hw1, ok1, nm1, hv1, hw2, ok2, nm2, hv2, hb6⟩
      have hl6 : l6 = [] := by (rw [Nat.pow_zero, Nat.mod_one] at hv2; exact nm2.nil_iff.1 hv2)
      subst hl6
      have HW2 := Lib.hid hw2
      have HB6 := Lib.hid (HB5.out.trans (hb6.mono HB5.out.size))
      have XS6 := Lib.hid (XS5.out.below hb6)
      clear hw1 ok1 nm1 hv1 hw2 ok2 nm2 hv2 hb6
      go_wp2_with (first | (go_at_call 120; (with_reducible refine (word64_any _ S _ XS6.out OS.out (by have := LS.out; have := Q2.out; omega)).mono ?_); rintro e w7 ⟨rfl, rfl⟩) | (go_at_call 120; (with_reducible refine (word64_any _ [] _ HW2.out .nil (by simp)).mono ?_); rintro e w7 ⟨rfl, rfl⟩))
      go_loopw [15, 16] (fun sx sy wr => ∃ x y : Nat, x < 18446744073709551616 ∧ y < 18446744073709551616 ∧ sx = .int .u64 x ∧ sy = .int .u64 y ∧ Nat.gcd x y = G ∧ Below w.heap.size w wr) (fun _ sy _ => (intOf sy).toNat)
      case atStart => exact ⟨val S, 0, by rw [HS11.out]; decide, by decide, rfl, rfl, by rw [Nat.gcd_zero_right, HS11.out, HG1.out], HB6.out⟩
      case round =>
        obtain ⟨x, y, hx, hy, rfl, rfl, hg, hb⟩ := hrel
        have HG := Lib.hid hg
        have HBR := Lib.hid hb
        have HX := Lib.hid hx
        have HY := Lib.hid hy
        have hxI : (x : Int) < 18446744073709551616 := by omega
        have hyI : (y : Int) < 18446744073709551616 := by omega
        clear hg hb hx hy
        by_cases hy0 : y = 0
        · have hx0 : x = G := by have := HG.out; rwa [hy0, Nat.gcd_zero_right] at this
          subst hx0
          subst hy0
          have HW := Lib.hid (lit2' wr x)
          have hv : val [x % 4294967296, x / 4294967296] = x := by simp [val]; omega
          have ok : Ok [x % 4294967296, x / 4294967296] := .cons (by omega) (.cons (by have := HX.out; omega) .nil)
          have HV := Lib.hid hv
          have OK := Lib.hid ok
          have HB0 := Lib.hid ((Below.refl wr.heap.size wr).alloc (Nat.le_refl _) (.cells #[.int .u32 ((x : Int) % 4294967296), .int .u32 ((x : Int) / 4294967296)] TW))
          clear hv ok
          go_wp2_with (go_at_call 98; refine (trimmed_any _ [x % 4294967296, x / 4294967296] _ HW.out OK.out (by simp)).mono ?_; rintro e w1 ⟨v', l', rfl, hw1, ok1, nm1, hv1, hb1⟩; rw [HV.out] at hv1; have HW1 := Lib.hid hw1; have OK1 := Lib.hid ok1; have NM1 := Lib.hid nm1; have HV1 := Lib.hid hv1; have HB1 := Lib.hid (HB0.out.trans (hb1.mono (by simp))); clear hw1 ok1 nm1 hv1 hb1)
          go_ret
          exact WRet.mk HW1.out OK1.out NM1.out HV1.out (HBR.out.trans (HB1.out.mono HBR.out.size))
        · have hst := gcd_step HG.out
          have hml : x % y < y := Nat.mod_lt _ (by omega)
          have eM : (x : Int) % (y : Int) = ((x % y : Nat) : Int) := by rw [Int.natCast_emod]
          obtain ⟨X, hX⟩ : ∃ X : Int, (x : Int) = X := ⟨_, rfl⟩
          obtain ⟨Y, hY⟩ : ∃ Y : Int, (y : Int) = Y := ⟨_, rfl⟩
          have hX0 : 0 ≤ X := by omega
          have hY0 : 0 < Y := by omega
          have hYn : ¬ Y = 0 := by omega
          rw [hX, hY] at eM
          rw [hX] at hxI
          rw [hY] at hyI
          have hR0 : 0 ≤ X % Y := Int.emod_nonneg _ hYn
          have hR1 : X % Y < 18446744073709551616 := by have := Int.emod_lt_of_pos X hY0; omega
          rw [hX, hY]
          have HST := Lib.hid hst
          have HML := Lib.hid hml
          have EM := Lib.hid eM
          have EX := Lib.hid hX
          have EY := Lib.hid hY
          clear hst hml hy0 eM hX hY
          go_wp2_with fail
          go_quiet (fail)
          go_wp2_with fail
          go_roundw
          case rel => exact ⟨y, x % y, HY.out, by have := HML.out; have := HY.out; omega, by rw [EY.out], by rw [EM.out], HST.out, below_drewN HBR.out _⟩
          case measure => have := HML.out; have := EM.out; have := EY.out; simp [intOf]; omega
    · have h2I : (lenL : Int) ≤ 2 := by omega
      have hL2 : lenL ≤ 2 := by omega
      have HL22 := Lib.hid hL2
      have hV : val L < 18446744073709551616 ∧ val S < 18446744073709551616 := by
        have h1 := val_lt OL.out
        rw [Q1.out] at h1
        have h3 : (4294967296 : Nat) ^ lenL ≤ 4294967296 ^ 2 := Nat.pow_le_pow_right (by decide) hL2
        have := HSL.out
        omega
      have HV2 := Lib.hid hV
      clear h2 hL2 hV
      go_wp2_with (first | (go_at_call 120; (with_reducible refine (word64_any _ L _ XL5.out OL.out (by have := HL22.out; have := Q1.out; omega)).mono ?_); rintro e w7 ⟨rfl, rfl⟩) | (go_at_call 120; (with_reducible refine (word64_any _ S _ XS5.out OS.out (by have := LS.out; have := Q2.out; omega)).mono ?_); rintro e w7 ⟨rfl, rfl⟩))
      go_loopw [15, 16] (fun sx sy wr => ∃ x y : Nat, x < 18446744073709551616 ∧ y < 18446744073709551616 ∧ sx = .int .u64 x ∧ sy = .int .u64 y ∧ Nat.gcd x y = G ∧ Below w.heap.size w wr) (fun _ sy _ => (intOf sy).toNat)
      case atStart => exact ⟨val L, val S, HV2.out.1, HV2.out.2, rfl, rfl, HGD.out, HB5.out⟩
      case round =>
        obtain ⟨x, y, hx, hy, rfl, rfl, hg, hb⟩ := hrel
        have HG := Lib.hid hg
        have HBR := Lib.hid hb
        have HX := Lib.hid hx
        have HY := Lib.hid hy
        have hxI : (x : Int) < 18446744073709551616 := by omega
        have hyI : (y : Int) < 18446744073709551616 := by omega
        clear hg hb hx hy
        by_cases hy0 : y = 0
        · have hx0 : x = G := by have := HG.out; rwa [hy0, Nat.gcd_zero_right] at this
          subst hx0
          subst hy0
          have HW := Lib.hid (lit2' wr x)
          have hv : val [x % 4294967296, x / 4294967296] = x := by simp [val]; omega
          have ok : Ok [x % 4294967296, x / 4294967296] := .cons (by omega) (.cons (by have := HX.out; omega) .nil)
          have HV := Lib.hid hv
          have OK := Lib.hid ok
          have HB0 := Lib.hid ((Below.refl wr.heap.size wr).alloc (Nat.le_refl _) (.cells #[.int .u32 ((x : Int) % 4294967296), .int .u32 ((x : Int) / 4294967296)] TW))
          clear hv ok
          go_wp2_with (go_at_call 98; refine (trimmed_any _ [x % 4294967296, x / 4294967296] _ HW.out OK.out (by simp)).mono ?_; rintro e w1 ⟨v', l', rfl, hw1, ok1, nm1, hv1, hb1⟩; rw [HV.out] at hv1; have HW1 := Lib.hid hw1; have OK1 := Lib.hid ok1; have NM1 := Lib.hid nm1; have HV1 := Lib.hid hv1; have HB1 := Lib.hid (HB0.out.trans (hb1.mono (by simp))); clear hw1 ok1 nm1 hv1 hb1)
          go_ret
          exact WRet.mk HW1.out OK1.out NM1.out HV1.out (HBR.out.trans (HB1.out.mono HBR.out.size))
        · have hst := gcd_step HG.out
          have hml : x % y < y := Nat.mod_lt _ (by omega)
          have eM : (x : Int) % (y : Int) = ((x % y : Nat) : Int) := by rw [Int.natCast_emod]
          obtain ⟨X, hX⟩ : ∃ X : Int, (x : Int) = X := ⟨_, rfl⟩
          obtain ⟨Y, hY⟩ : ∃ Y : Int, (y : Int) = Y := ⟨_, rfl⟩
          have hX0 : 0 ≤ X := by omega
          have hY0 : 0 < Y := by omega
          have hYn : ¬ Y = 0 := by omega
          rw [hX, hY] at eM
          rw [hX] at hxI
          rw [hY] at hyI
          have hR0 : 0 ≤ X % Y := Int.emod_nonneg _ hYn
          have hR1 : X % Y < 18446744073709551616 := by have := Int.emod_lt_of_pos X hY0; omega
          rw [hX, hY]
          have HST := Lib.hid hst
          have HML := Lib.hid hml
          have EM := Lib.hid eM
          have EX := Lib.hid hX
          have EY := Lib.hid hY
          clear hst hml hy0 eM hX hY
          go_wp2_with fail
          go_quiet (fail)
          go_wp2_with fail
          go_roundw
          case rel => exact ⟨y, x % y, HY.out, by have := HML.out; have := HY.out; omega, by rw [EY.out], by rw [EM.out], HST.out, below_drewN HBR.out _⟩
          case measure => have := HML.out; have := EM.out; have := EY.out; simp [intOf]; omega
end Go.Proofs.YtokmommlabdcdaaGreatDoor
namespace Go.Proofs.YtokmommlabdcdaaGreatDoor
open Wd Fl Go.RowKit
set_option linter.unusedVariables false
set_option linter.unusedSimpArgs false
/-- the odd parts are small, or one is 1 -/
def Sm (a b : Nat) : Prop := a = 0 ∨ b = 0 ∨ ∃ p q c d, a = 2 ^ p * c ∧ b = 2 ^ q * d ∧ c % 2 = 1 ∧ d % 2 = 1 ∧ (c = 1 ∨ d = 1 ∨ (c < 18446744073709551616 ∧ d < 18446744073709551616))
theorem tz_unique {p c t : Nat} (hc : c % 2 = 1) (h : TzR (2 ^ p * c) t) : t = p := by
  have hp := Nat.two_pow_pos p
  rcases h with ⟨h, _⟩ | ⟨h1, h2⟩
  · have : 0 < 2 ^ p * c := Nat.mul_pos hp (by omega)
    omega
  · rcases Nat.lt_trichotomy t p with g | g | g
    · obtain ⟨j, rfl⟩ : ∃ j, p = t + (j + 1) := ⟨p - t - 1, by omega⟩
      rw [Nat.pow_add, Nat.mul_assoc, Nat.mul_div_cancel_left _ (Nat.two_pow_pos t), Nat.pow_succ, Nat.mul_comm (2 ^ j) 2, Nat.mul_assoc] at h2
      omega
    · exact g
    · obtain ⟨j, rfl⟩ : ∃ j, t = p + (j + 1) := ⟨t - p - 1, by omega⟩
      rw [Nat.pow_add, Nat.mul_mod_mul_left, Nat.pow_succ, Nat.mul_comm (2 ^ j) 2] at h1
      have h3 : c % (2 * 2 ^ j) = 0 := by
        rcases Nat.mul_eq_zero.1 h1 with h | h
        · omega
        · exact h
      have := Nat.mod_mul_right_mod c 2 (2 ^ j)
      omega
set_option maxRecDepth 100000 in
set_option maxHeartbeats 8000000 in
theorem common_any (va vb : Value) (la lb : List Nat) (w : World) (ha : WAt TW w va la) (hb : WAt TW w vb lb) (oa : Ok la) (ob : Ok lb) (na : Nm la) (nb : Nm lb) (hl : la.length ≤ 10000) (hl2 : lb.length ≤ 10000) (hs : Sm (val la) (val lb)) :
    Calls Tryz.prog 100 #[va, vb] w (WRet (Nat.gcd (val la) (val lb)) w) := by
  by_cases ha0 : la = []
  · subst ha0
    rw [val_nil, Nat.gcd_zero_left]
    have HB := Lib.hid hb; have OB := Lib.hid ob; have NB := Lib.hid nb
    obtain ⟨aa, ca, rfl⟩ := ha.slice
    clear ha hb oa ob na nb hl hl2 hs
    go_enter Tryz.func100, Tryz.ntmps100
    go_wp2_with fail
    go_ret
    exact WRet.mk HB.out OB.out NB.out rfl (Below.refl _ _)
  · have hla0 : 0 < la.length := List.length_pos_iff.2 ha0
    have hlaI : (((la.length : Nat) : Int) == 0) = false := by rw [beq_eq_false_iff_ne]; omega
    by_cases hb0 : lb = []
    · subst hb0
      rw [val_nil, Nat.gcd_zero_right]
      have HA := Lib.hid ha; have OA := Lib.hid oa; have NA := Lib.hid na
      obtain ⟨aa, ca, rfl⟩ := ha.slice
      obtain ⟨ab, cb, rfl⟩ := hb.slice
      clear ha hb oa ob na nb hl hl2 hs ha0 hla0
      simp only [List.length_nil]
      generalize hq1 : la.length = len at *
      clear hq1
      go_enter Tryz.func100, Tryz.ntmps100
      go_wp2_with fail
      go_ret
      exact WRet.mk HA.out OA.out NA.out rfl (Below.refl _ _)
    · have hlb0 : 0 < lb.length := List.length_pos_iff.2 hb0
      have hlbI : (((lb.length : Nat) : Int) == 0) = false := by rw [beq_eq_false_iff_ne]; omega
      have hva := na.pos ha0
      have hvb := nb.pos hb0
      obtain ⟨p, q, c, d, hA, hB, hc, hd, hsm⟩ : ∃ p q c d, val la = 2 ^ p * c ∧ val lb = 2 ^ q * d ∧ c % 2 = 1 ∧ d % 2 = 1 ∧ (c = 1 ∨ d = 1 ∨ (c < 18446744073709551616 ∧ d < 18446744073709551616)) := by
        rcases hs with h | h | h
        · omega
        · omega
        · exact h
      have hpb : ∀ (l : List Nat) (p c : Nat), Ok l → l.length ≤ 10000 → 0 < c → val l = 2 ^ p * c → p ≤ 320000 := fun l p c ol hl hc h => by
        have h1 := val_lt ol
        rw [pw] at h1
        have h2 : 2 ^ p * 1 ≤ 2 ^ p * c := Nat.mul_le_mul_left _ hc
        have h3 : 2 ^ p < 2 ^ (32 * l.length) := by omega
        have := (Nat.pow_lt_pow_iff_right (by decide : 1 < 2)).1 h3
        omega
      have hp := hpb la p c oa hl (by omega) hA
      have hq := hpb lb q d ob hl2 (by omega) hB
      have hcv : val la / 2 ^ p = c := by rw [hA, Nat.mul_div_cancel_left _ (Nat.two_pow_pos p)]
      have hdv : val lb / 2 ^ q = d := by rw [hB, Nat.mul_div_cancel_left _ (Nat.two_pow_pos q)]
      have hG : Nat.gcd (val la) (val lb) = Nat.gcd c d * 2 ^ (min p q) := by rw [hA, hB, gcd_twos hc hd, Nat.mul_comm]
      obtain ⟨G, hGd⟩ : ∃ G, Nat.gcd (val la) (val lb) = G := ⟨_, rfl⟩
      rw [hGd]
      rw [hGd] at hG
      have hlc : blen c ≤ 320000 := Nat.le_trans (blen_mono (by rw [← hcv]; exact Nat.div_le_self _ _)) (by have h1 := val_lt oa; rw [pw] at h1; have := blen_of_lt h1; omega)
      have hld : blen d ≤ 320000 := Nat.le_trans (blen_mono (by rw [← hdv]; exact Nat.div_le_self _ _)) (by have h1 := val_lt ob; rw [pw] at h1; have := blen_of_lt h1; omega)
      have HA := Lib.hid ha; have HB := Lib.hid hb; have OA := Lib.hid oa; have OB := Lib.hid ob; have NA := Lib.hid na; have NB := Lib.hid nb; have HL := Lib.hid hl; have HL2 := Lib.hid hl2
      have HP := Lib.hid hp; have HQ := Lib.hid hq; have HCV := Lib.hid hcv; have HDV := Lib.hid hdv; have HG := Lib.hid hG; have VA := Lib.hid hA; have VB := Lib.hid hB
      have HC := Lib.hid hc; have HD := Lib.hid hd; have HSM := Lib.hid hsm; have HLC := Lib.hid hlc; have HLD := Lib.hid hld
      have hpI : (p : Int) ≤ 320000 := by omega
      have hqI : (q : Int) ≤ 320000 := by omega
      obtain ⟨aa, ca, rfl⟩ := ha.slice
      obtain ⟨ab, cb, rfl⟩ := hb.slice
      clear ha hb oa ob na nb hl hl2 hs ha0 hla0 hb0 hlb0 hva hvb hA hB hc hd hsm hpb hp hq hcv hdv hG hGd hlc hld
      generalize hq1 : la.length = len at *
      have Q1 := Lib.hid hq1
      clear hq1
      generalize hq1 : lb.length = len2 at *
      have Q2 := Lib.hid hq1
      clear hq1
      have hlI : (len : Int) ≤ 10000 := by have := HL.out; omega
      have hlI2 : (len2 : Int) ≤ 10000 := by have := HL2.out; omega
      go_enter Tryz.func100, Tryz.ntmps100
      go_wp2_with fail
      refine (ends_any _ la _ HA.out OA.out (by have := Q1.out; have := HL.out; omega)).mono ?_
      rintro e w6 ⟨t, rfl, ht, rfl⟩
      rw [VA.out] at ht
      obtain rfl := tz_unique HC.out ht
      clear ht
      go_wp2_with fail
      refine (ends_any _ lb _ HB.out OB.out (by have := Q2.out; have := HL2.out; omega)).mono ?_
      rintro e w6 ⟨t2, rfl, ht, rfl⟩
      rw [VB.out] at ht
      obtain rfl := tz_unique HD.out ht
      clear ht
      go_wp2_with fail
      refine (right_any _ la t _ HA.out OA.out (by have := Q1.out; have := HL.out; omega) (by have := HP.out; omega)).mono ?_
      rintro e w1 ⟨v1, l1, rfl, hw1, ok1, nm1, hv1, hb1⟩
      rw [HCV.out] at hv1
      have HW1 := Lib.hid hw1; have OK1 := Lib.hid ok1; have NM1 := Lib.hid nm1; have HV1 := Lib.hid hv1; have HB1 := Lib.hid hb1; have HBB := Lib.hid (HB.out.below hb1)
      clear hw1 ok1 nm1 hv1 hb1
      go_wp2_with fail
      refine (right_any _ lb t2 _ HBB.out OB.out (by have := Q2.out; have := HL2.out; omega) (by have := HQ.out; omega)).mono ?_
      rintro e w2 ⟨v2, l2, rfl, hw1, ok1, nm1, hv1, hb1⟩
      rw [HDV.out] at hv1
      have HW2 := Lib.hid hw1; have OK2 := Lib.hid ok1; have NM2 := Lib.hid nm1; have HV2 := Lib.hid hv1; have HB2 := Lib.hid (HB1.out.trans (hb1.mono HB1.out.size)); have HW12 := Lib.hid (HW1.out.below hb1)
      clear hw1 ok1 nm1 hv1 hb1
      go_wp2_with fail
      refine (odd_any _ _ l1 l2 _ HW12.out HW2.out OK1.out OK2.out NM1.out NM2.out (by have := len_of_blen NM1.out (k := 320000) (by rw [HV1.out]; exact HLC.out); omega) (by have := len_of_blen NM2.out (k := 320000) (by rw [HV2.out]; exact HLD.out); omega) (by rw [HV1.out]; have := HC.out; omega) (by rw [HV2.out]; have := HD.out; omega) (by rw [HV1.out, HV2.out]; exact HSM.out)).mono ?_
      rintro e w3 ⟨v3, l3, rfl, hw1, ok1, nm1, hv1, hb1⟩
      rw [HV1.out, HV2.out] at hv1
      have HW3 := Lib.hid hw1; have OK3 := Lib.hid ok1; have NM3 := Lib.hid nm1; have HV3 := Lib.hid hv1; have HB3 := Lib.hid (HB2.out.trans (hb1.mono HB2.out.size))
      clear hw1 ok1 nm1 hv1 hb1
      have hl3 : l3.length ≤ 10001 := by
        have h1 := len_of_blen NM3.out (k := 320000) (by
          rw [HV3.out]
          exact Nat.le_trans (blen_mono (Nat.gcd_le_left d (by have := HC.out; omega))) HLC.out)
        omega
      have HL3 := Lib.hid hl3
      clear hl3
      go_wp2_with fail
      all_goals
        refine (up_any _ l3 _ _ HW3.out OK3.out (by have := HL3.out; omega) (by have := HP.out; have := HQ.out; omega)).mono ?_
        rintro e w4 ⟨v4, l4, rfl, hw1, ok1, nm1, hv1, hb1⟩
        rw [HV3.out] at hv1
        have hv2 := hv1.trans ((congrArg (fun k => Nat.gcd c d * 2 ^ k) (by omega)).trans HG.out.symm)
        have HW4 := Lib.hid hw1; have OK4 := Lib.hid ok1; have NM4 := Lib.hid nm1; have HV4 := Lib.hid hv2; have HB4 := Lib.hid (HB3.out.trans (hb1.mono HB3.out.size))
        clear hw1 ok1 nm1 hv1 hb1 hv2
        go_wp2_with fail
        go_ret
        exact WRet.mk HW4.out OK4.out NM4.out HV4.out HB4.out
end Go.Proofs.YtokmommlabdcdaaGreatDoor
namespace Go.Proofs.YtokmommlabdcdaaGreatDoor
open Wd Fl Go.RowKit
set_option linter.unusedVariables false
set_option linter.unusedSimpArgs false
/-- a literal slice of no words, made in W -/
theorem lit0 (W : World) : (W.alloc (.cells #[] TW)).ownsRow W.heap.size TW 1 (.slice (some ⟨W.heap.size, 0, none⟩) 0 0) 0 [] :=
  World.ownsRow_lit (base := W.heap.size) (e := TW) (size := 1) W #[] 0 (Nat.le_refl _) (by decide) rfl
theorem own_below {w w1 : World} {base : Nat} {v : Value} (h : w.ownsRow base TW 1 v 0 []) (hb : Below w.heap.size w w1) : w1.ownsRow base TW 1 v 0 [] :=
  h.kept (row := none) ⟨hb.os, hb.tape, hb.output, hb.size, fun k hk _ => hb.block k hk⟩ (by cases hv : v.ownBlock with
    | none => exact .inl rfl
    | some g => exact .inr (fun h => nomatch h))
theorem below_of_drew {B : Nat} {w w1 : World} (h : Below B w.drew w1) : Below B w w1 := ⟨h.os, h.tape, h.output, h.size, h.block⟩
set_option maxRecDepth 100000 in
set_option maxHeartbeats 8000000 in
theorem gcd_any (bz oz bx ox bY oY : Nat) (n m : Int) (w : World) (hz : ZAt TW w bz oz 2) (hx : IntAt TW w ⟨bx, ox, none⟩ n) (hy : IntAt TW w ⟨bY, oY, none⟩ m) (hn : bl n ≤ 100000) (hm : bl m ≤ 100000) (hs : Sm n.natAbs m.natAbs) :
    Calls Tryz.prog 81 #[.pointer (some ⟨bz, oz, none⟩), .pointer none, .pointer none, .pointer (some ⟨bx, ox, none⟩), .pointer (some ⟨bY, oY, none⟩)] w (IntRet TW bz oz ((Nat.gcd n.natAbs m.natAbs : Nat) : Int) w) := by
  obtain ⟨i0, hi0, hz0, hz1, hz2⟩ := info_parts infoW
  obtain ⟨neg, a, cap, l, h1, h2, H3, OK, NM, HN, HE, HK, N1⟩ := IntAt.open hx
  obtain ⟨neg2, a2, cap2, l2, h12, h22, H32, OK2, NM2, HN2, HE2, HK2, N12⟩ := IntAt.open hy
  have HZ := Lib.hid hz
  have hl0 := HK.out _ hn
  have hl02 := HK2.out _ hm
  have e1 : n.natAbs = val l := by rw [HE.out, sgn_abs]
  have e2 : m.natAbs = val l2 := by rw [HE2.out, sgn_abs]
  have b1 : blen (val l) ≤ 100000 := by rw [← e1]; exact hn
  have b2 : blen (val l2) ≤ 100000 := by rw [← e2]; exact hm
  rw [e1, e2] at hs ⊢
  have HS := Lib.hid hs
  have HL0 := Lib.hid hl0
  have HL02 := Lib.hid hl02
  have GB : Hid (blen (Nat.gcd (val l) (val l2)) ≤ 1000000) := Lib.hid (by
    by_cases h : val l = 0
    · rw [h, Nat.gcd_zero_left]; omega
    · have := blen_mono (Nat.gcd_le_left (val l2) (by omega : 0 < val l)); omega)
  obtain ⟨r, hr⟩ : ∃ r : Nat, Nat.gcd (val l) (val l2) = r := ⟨_, rfl⟩
  rw [hr] at GB ⊢
  have HR := Lib.hid hr
  clear hz hx hn hm hy hs hl0 hl02 e1 e2 b1 b2 hr
  generalize hL : l.length = len at *
  have HL := Lib.hid hL
  clear hL
  generalize hL : l2.length = len2 at *
  have HL2 := Lib.hid hL
  clear hL
  have hB : Below w.heap.size w (w.alloc (.cells #[] TW)) := (Below.refl _ _).alloc (Nat.le_refl _) _
  have HBA := Lib.hid hB
  have q2 : (w.alloc (.cells #[] 64)).cell? ⟨bx, ox + 1, none⟩ = some (.slice a len cap) := (hB.cell (p := ⟨bx, ox + 1, none⟩) N1).trans h2
  have q22 : (w.alloc (.cells #[] 64)).cell? ⟨bY, oY + 1, none⟩ = some (.slice a2 len2 cap2) := (hB.cell (p := ⟨bY, oY + 1, none⟩) N12).trans h22
  -- the call in either world
  have C1 : Hid (∀ W : World, Below w.heap.size w W → Calls Tryz.prog 100 #[.slice a len cap, .slice a2 len2 cap2] W (WRet r W)) := Lib.hid fun W hW => by
    have := common_any _ _ l l2 W (H3.out.below hW) (H32.out.below hW) OK.out OK2.out NM.out NM2.out (by have := HL0.out; have := HL.out; omega) (by have := HL02.out; have := HL2.out; omega) HS.out
    rw [HR.out] at this
    exact this
  clear hB h1 h12
  go_enter Tryz.func81, Tryz.ntmps81
  go_wp2_with fail
  go_region_law (first | (go_simp; go_at_call 100; refine (C1.out w.drew (Below.refl _ w).drew).mono ?_; rintro e w1 ⟨v', l', rfl, hw1, ok1, nm1, hv1, hb1⟩; have HW1 := Lib.hid hw1; have OK1 := Lib.hid ok1; have NM1 := Lib.hid nm1; have HV1 := Lib.hid hv1; have HB1 := Lib.hid ((Below.refl w.heap.size w).drew.trans hb1); have HWA := Lib.hid (hw1.below ((Below.refl w1.heap.size w1).alloc (Nat.le_refl _) (.cells #[] TW))); have HOA := Lib.hid (lit0 w1); clear hw1 ok1 nm1 hv1 hb1) | (go_simp; go_at_call 100; refine (C1.out (w.alloc (.cells #[] TW)).drew HBA.out.drew).mono ?_; rintro e w1 ⟨v', l', rfl, hw1, ok1, nm1, hv1, hb1⟩; have HW1 := Lib.hid hw1; have OK1 := Lib.hid ok1; have NM1 := Lib.hid nm1; have HV1 := Lib.hid hv1; have HB1 := Lib.hid (HBA.out.drew.trans (hb1.mono (by simp))); have HOB := Lib.hid (own_below (lit0 w) (below_of_drew hb1)); clear hw1 ok1 nm1 hv1 hb1) | (refine step_clone (by rfl) (.tmp 12) (.tmp 21) 58 (by rfl) TW i0 _ Tryz.underlying58 hi0 hz0 hz1 hz2 rfl w1.heap.size (.slice (some ⟨w1.heap.size, 0, none⟩) 0 0) (by rfl) HOA.out v' l' (by rfl) HWA.out (by have := len_of_blen NM1.out (k := 1000000) (by rw [HV1.out]; exact GB.out); omega) (by simp) ?_; intro v2 w2 hw2 hg2; have HB2 := Lib.hid (HB1.out.trans ((clone_below0 hg2).mono HB1.out.size)); have HW2 := Lib.hid hw2; clear hw2 hg2) | (refine step_clone (by rfl) (.tmp 12) (.tmp 21) 58 (by rfl) TW i0 _ Tryz.underlying58 hi0 hz0 hz1 hz2 rfl w.heap.size (.slice (some ⟨w.heap.size, 0, none⟩) 0 0) (by rfl) HOB.out v' l' (by rfl) HW1.out (by have := len_of_blen NM1.out (k := 1000000) (by rw [HV1.out]; exact GB.out); omega) (by exact HB1.out.size) ?_; intro v2 w2 hw2 hg2; have HB2 := Lib.hid (HB1.out.grown hg2 HB1.out.size (fun k hk => by simp [Value.ownBlock] at hk; omega)); have HW2 := Lib.hid hw2; clear hw2 hg2) | (go_simp; go_at_call 72; refine (iput_any _ _ _ _ l' _ (HZ.out.below HB2.out) HW2.out OK1.out NM1.out (len_small NM1.out (by rw [HV1.out]; exact GB.out))).mono ?_; rintro e w3 ⟨rfl, hi2, hr2⟩; have HI2 := Lib.hid hi2; have HR2 := Lib.hid ((Wr.of_below _ _ _ HB2.out).trans hr2); clear hi2 hr2))
  all_goals
    go_wp2_with fail
    go_ret
    refine ⟨rfl, ?_, HR2.out⟩
    have := HI2.out
    unfold sgn at this
    rw [HV1.out] at this
    exact this
end Go.Proofs.YtokmommlabdcdaaGreatDoor
set_option linter.unusedVariables false
set_option linter.unusedSimpArgs false
namespace Go.Proofs.YtokmommlabdcdaaGreatDoor
open Wd Fl Go.RowKit
/-- a fraction at the begin of a block: numerator, denominator (0 for 1) -/
def RatAt (w : World) (b : Nat) (x : Rat) : Prop := IntAt TW w ⟨b, 0, none⟩ x.num ∧ IntAt TW w ⟨b, 2, none⟩ (if x.den = 1 then 0 else (x.den : Int))
/-- both cells of a number written -/
def put2 (w : World) (b o : Nat) (x y : Value) : World := (w.setCell ⟨b, o, none⟩ x).setCell ⟨b, o + 1, none⟩ y
theorem put2_wr (w : World) (b o : Nat) (x y : Value) : Wr b o (o + 2) w (put2 w b o x y) := (Wr.set x (by omega) (by omega)).trans (Wr.set y (by omega) (by omega))
theorem put2_int {w : World} {b o : Nat} {neg : Bool} {v : Value} {l : List Nat} {n : Int} (hz : ZAt TW w b o 2) (hv : WAt TW w v l) (ok : Ok l) (nm : Nm l) (hn : neg = true → l ≠ []) (he : n = sgn neg l) : IntAt TW (put2 w b o (.bool neg) v) ⟨b, o, none⟩ n := by
  have W := put2_wr w b o (.bool neg) v
  have hv2 := hv.wr W hz
  obtain ⟨t, cur, ht, hc, hs⟩ := hz
  have hh1 := heap_setCell_same w b o cur t (.bool neg) hc
  have hh2 := heap_setCell_same (w.setCell ⟨b, o, none⟩ (.bool neg)) b (o + 1) _ t v hh1
  refine ⟨b, o, neg, v, l, t, rfl, ht, ⟨_, hh2⟩, ?_, ?_, hv2, ok, nm, hn, he⟩
  · rw [put2, cell_of_row _ _ _ _ _ _ hh2, Array.getElem?_setIfInBounds_ne (by omega), Array.getElem?_setIfInBounds_self_of_lt (by omega)]
  · rw [put2, cell_of_row _ _ _ _ _ _ hh2, Array.getElem?_setIfInBounds_self_of_lt (by rw [Array.size_setIfInBounds]; omega)]
theorem put2_zero {w : World} {b o : Nat} (hz : ZAt TW w b o 2) : IntAt TW (put2 w b o (.bool false) (.slice none 0 0)) ⟨b, o, none⟩ 0 :=
  put2_int (l := []) hz (.inl ⟨rfl, _, _, rfl, fun _ => rfl⟩) .nil .nil (fun h => nomatch h) rfl
set_option maxRecDepth 100000 in
set_option maxHeartbeats 2000000 in
theorem whole_any (b : Nat) (x : Rat) (w : World) (hx : RatAt w b x) :
    Calls Tryz.prog 59 #[.pointer (some ⟨b, 0, none⟩)] w fun e w' => e = .returned (.bool (decide (x.den = 1))) ∧ w = w' := by
  obtain ⟨neg, a, cap, l, h1, h2, H3, OK, NM, HN, HE, HK, N1⟩ := IntAt.open hx.2
  have hd := x.den_pos
  have hl : ((l.length : Int) == 0) = decide (x.den = 1) := by
    have he := HE.out
    by_cases c : x.den = 1
    · rw [if_pos c] at he
      have hv : val l = 0 := by have := sgn_abs neg l; rw [← he] at this; simpa using this.symm
      rw [NM.out.nil_iff.1 hv, decide_eq_true c]; rfl
    · rw [if_neg c] at he
      have hv : val l ≠ 0 := by have := sgn_abs neg l; rw [← he] at this; omega
      have hne : l ≠ [] := fun e => hv (by rw [e]; rfl)
      rw [decide_eq_false c, beq_eq_false_iff_ne]
      have := List.length_pos_iff.2 hne
      omega
  rw [← hl]
  generalize l.length = n at *
  clear hl hx hd HE HK HN H3 OK NM h1
  go_enter Tryz.func59, Tryz.ntmps59
  go_wp2
  go_ret
  exact ⟨rfl, rfl⟩
set_option maxRecDepth 100000 in
set_option maxHeartbeats 2000000 in
theorem place_any (bz ba oa bb ob : Nat) (x : Rat) (w : World) (hz : ZAt TW w bz 0 4) (hne : ba ≠ bz) (hneb : bb ≠ bz) (ha : IntAt TW w ⟨ba, oa, none⟩ x.num) (hb : IntAt TW w ⟨bb, ob, none⟩ (x.den : Int)) (hbl : bl (x.den : Int) ≤ 100000) :
    Calls Tryz.prog 85 #[.pointer (some ⟨bz, 0, none⟩), .pointer (some ⟨ba, oa, none⟩), .pointer (some ⟨bb, ob, none⟩)] w fun e w' => e = .returned (.pointer (some ⟨bz, 0, none⟩)) ∧ RatAt w' bz x ∧ Wr bz 0 4 w w' := by
  obtain ⟨neg, a, cap, l, h1, h2, H3, OK, NM, HN, HE, HK, N1⟩ := IntAt.open ha
  obtain ⟨neg2, a2, cap2, l2, h12, h22, H32, OK2, NM2, HN2, HE2, HK2, N12⟩ := IntAt.open hb
  obtain ⟨x0, c0⟩ := hz.cell 0 (by omega)
  obtain ⟨x1, c1⟩ := hz.cell 1 (by omega)
  obtain ⟨x2, c2⟩ := hz.cell 2 (by omega)
  obtain ⟨x3, c3⟩ := hz.cell 3 (by omega)
  have f0 := hz.frozen 0
  have f1 := hz.frozen 1
  have f2 := hz.frozen 2
  have f3 := hz.frozen 3
  have z0 : ZAt TW w bz 0 2 := hz.sub 0 2 (by omega)
  have i1 := put2_int (n := x.num) z0 H3.out OK.out NM.out HN.out HE.out
  have W1 := put2_wr w bz 0 (.bool neg) (.slice a l.length cap)
  have z1 : ZAt TW (put2 w bz 0 (.bool neg) (.slice a l.length cap)) bz 2 2 := (hz.sub 2 2 (by omega)).wr W1
  have i2 := put2_int (n := (x.den : Int)) z1 (H32.out.wr W1 hz) OK2.out NM2.out HN2.out HE2.out
  have W2 := put2_wr (put2 w bz 0 (.bool neg) (.slice a l.length cap)) bz 2 (.bool neg2) (.slice a2 l2.length cap2)
  have W12 := (W1.mono (lo' := 0) (hi' := 4) (by omega) (by omega)).trans (W2.mono (by omega) (by omega))
  have hb2 := hb.wr W12 hz (.inl hneb)
  have hz2 := hz.wr W12
  have ONE := Lib.hid (one_any bb ob (x.den : Int) _ hb2 hbl)
  have z3 := hz2.sub 2 2 (by omega)
  have i3 := put2_zero z3
  have W3 := put2_wr (put2 (put2 w bz 0 (.bool neg) (.slice a l.length cap)) bz 2 (.bool neg2) (.slice a2 l2.length cap2)) bz 2 (.bool false) (.slice none 0 0)
  have n1 := i1.wr W2 z1 (by omega)
  have n2 := n1.wr W3 hz2 (by omega)
  have F1 : Hid (x.den = 1 → RatAt (put2 (put2 (put2 w bz 0 (.bool neg) (.slice a l.length cap)) bz 2 (.bool neg2) (.slice a2 l2.length cap2)) bz 2 (.bool false) (.slice none 0 0)) bz x) := Lib.hid (fun h => ⟨n2, by rw [if_pos h]; exact i3⟩)
  have F2 : Hid (x.den ≠ 1 → RatAt (put2 (put2 w bz 0 (.bool neg) (.slice a l.length cap)) bz 2 (.bool neg2) (.slice a2 l2.length cap2)) bz x) := Lib.hid (fun h => ⟨n1, by rw [if_neg h]; exact i2⟩)
  have W123 := Lib.hid (W12.trans (W3.mono (lo' := 0) (hi' := 4) (by omega) (by omega)))
  have W12 := Lib.hid W12
  obtain ⟨y2, c2'⟩ := z3.cell 2 (by omega)
  obtain ⟨y3, c3'⟩ := z3.cell 3 (by omega)
  have f2' := z3.frozen 2
  have f3' := z3.frozen 3
  clear ha hb hbl i1 i2 i3 W1 W2 W3 n1 n2 hb2 hz hz2 z0 z1 z3
  unfold put2 at *
  by_cases h1d : x.den = 1
  · have e1 : decide ((x.den : Int) = 1) = true := decide_eq_true (by omega)
    rw [e1] at ONE
    go_enter Tryz.func85, Tryz.ntmps85
    go_wp2_with (go_at_call 82; refine ONE.out.mono ?_; rintro e w' ⟨rfl, rfl⟩)
    go_ret
    exact ⟨rfl, F1.out h1d, W123.out⟩
  · have e1 : decide ((x.den : Int) = 1) = false := decide_eq_false (by omega)
    rw [e1] at ONE
    go_enter Tryz.func85, Tryz.ntmps85
    go_wp2_with (go_at_call 82; refine ONE.out.mono ?_; rintro e w' ⟨rfl, rfl⟩)
    go_ret
    exact ⟨rfl, F2.out h1d, W12.out⟩
/-- what Denom answers -/
def DenR (b : Nat) (n : Int) (w : World) (e : Ending) (w' : World) : Prop := ∃ bp op, e = .returned (.pointer (some ⟨bp, op, none⟩)) ∧ IntAt TW w' ⟨bp, op, none⟩ n ∧ Below w.heap.size w w' ∧ ((bp = b ∧ op = 2) ∨ w.heap.size ≤ bp)
set_option maxRecDepth 100000 in
set_option maxHeartbeats 2000000 in
theorem denom_any (b : Nat) (x : Rat) (w : World) (hx : RatAt w b x) :
    Calls Tryz.prog 60 #[.pointer (some ⟨b, 0, none⟩)] w (DenR b (x.den : Int) w) := by
  obtain ⟨neg, a, cap, l, h1, h2, H3, OK, NM, HN, HE, HK, N1⟩ := IntAt.open hx.2
  have hd := x.den_pos
  by_cases c : x.den = 1
  · have hl : (l.length : Int) = 0 := by
      have he := HE.out
      rw [if_pos c] at he
      have hv : val l = 0 := by have := sgn_abs neg l; rw [← he] at this; simpa using this.symm
      rw [NM.out.nil_iff.1 hv]; rfl
    have hl2 : l.length = 0 := by omega
    rw [hl2] at h2
    have NI := Lib.hid (newInt_any 1 w (by decide) (by decide))
    rw [c]
    clear hl hl2 hx hd HE HK HN H3 OK NM h1
    go_enter Tryz.func60, Tryz.ntmps60
    go_wp2_with (go_at_call 57; refine NI.out.mono ?_; intro e w' hw'; unfold NewRet at hw'; rcases hw' with ⟨bn, he, hb, hi, hbw⟩; subst he)
    go_ret
    exact ⟨bn, 0, rfl, hi, hbw, .inr hb⟩
  · have hl : ((l.length : Int) == 0) = false := by
      have he := HE.out
      rw [if_neg c] at he
      have hv : val l ≠ 0 := by have := sgn_abs neg l; rw [← he] at this; omega
      have hne : l ≠ [] := fun e => hv (by rw [e]; rfl)
      rw [beq_eq_false_iff_ne]
      have := List.length_pos_iff.2 hne
      omega
    have hi := hx.2
    rw [if_neg c] at hi
    have HI := Lib.hid hi
    generalize l.length = n at *
    clear hx hd HE HK HN H3 OK NM h1 hi
    go_enter Tryz.func60, Tryz.ntmps60
    go_wp2
    go_ret
    exact ⟨b, 2, rfl, HI.out, Below.refl _ _, .inl ⟨rfl, rfl⟩⟩
end Go.Proofs.YtokmommlabdcdaaGreatDoor
namespace Go.Proofs.YtokmommlabdcdaaGreatDoor
open Wd Fl Go.RowKit
set_option linter.unusedVariables false
set_option linter.unusedSimpArgs false
theorem sgn_add (p : Bool) (l m r : List Nat) (h : val r = val l + val m) : sgn p r = sgn p l + sgn p m := by
  unfold sgn; rw [h]; cases p <;> simp <;> omega
theorem sgn_less (p q : Bool) (l m r : List Nat) (hpq : p ≠ q) (hle : val m ≤ val l) (h : val r = val l - val m) : sgn p r = sgn p l + sgn q m := by
  unfold sgn; rw [h]; cases p <;> cases q <;> simp at hpq ⊢ <;> omega
theorem len_of_le {l m : List Nat} (ol : Ok l) (nm : Nm m) (h : val m ≤ val l) : m.length ≤ l.length := by
  rcases Nat.lt_or_ge l.length m.length with c | c
  · have := cmp_len ol nm c; omega
  · exact c
set_option maxRecDepth 100000 in
set_option maxHeartbeats 8000000 in
theorem iadd_any (bz oz bx ox bY oY : Nat) (n m : Int) (w : World) (hz : ZAt TW w bz oz 2) (hx : IntAt TW w ⟨bx, ox, none⟩ n) (hy : IntAt TW w ⟨bY, oY, none⟩ m) (hn : bl n ≤ 100000) (hm : bl m ≤ 100000) :
    Calls Tryz.prog 66 #[.pointer (some ⟨bz, oz, none⟩), .pointer (some ⟨bx, ox, none⟩), .pointer (some ⟨bY, oY, none⟩)] w (IntRet TW bz oz (n + m) w) := by
  obtain ⟨neg, a, cap, l, h1, h2, H3, OK, NM, HN, HE, HK, N1⟩ := IntAt.open hx
  obtain ⟨neg2, a2, cap2, l2, h12, h22, H32, OK2, NM2, HN2, HE2, HK2, N12⟩ := IntAt.open hy
  have HZ := Lib.hid hz
  have hd : Below w.heap.size w w.drew := (Below.refl _ w).drew
  have hl0 := HK.out _ hn
  have hl02 := HK2.out _ hm
  have b1 : blen (val l) ≤ 100000 := by unfold bl at hn; rw [HE.out, sgn_abs] at hn; exact hn
  have b2 : blen (val l2) ≤ 100000 := by unfold bl at hm; rw [HE2.out, sgn_abs] at hm; exact hm
  have HD := Lib.hid hd
  have H3D := Lib.hid (H3.out.below (Below.refl _ w).drew)
  have H3D2 := Lib.hid (H32.out.below (Below.refl _ w).drew)
  have HL0 := Lib.hid hl0
  have HL02 := Lib.hid hl02
  have B1 := Lib.hid b1
  have B2 := Lib.hid b2
  obtain ⟨r, hr⟩ : ∃ r, n + m = r := ⟨_, rfl⟩
  rw [hr]
  have HR := Lib.hid hr
  clear hz hx hn hr hm hy hd hl0 hl02 b1 b2
  by_cases hs : neg = neg2
  · subst hs
    have HM : Hid (blen (val l + val l2) ≤ 1000000) := Lib.hid (by have := blen_add _ _ 100000 B1.out B2.out; omega)
    generalize hL : l.length = len at *
    have HL := Lib.hid hL
    clear hL
    generalize hL : l2.length = len2 at *
    have HL2 := Lib.hid hL
    clear hL
    go_enter Tryz.func66, Tryz.ntmps66
    go_wp2_with fail
    go_quiet (fail)
    go_wp2_with fail
    go_region_law (first | (go_simp; go_at_call 91; refine (sum_any _ _ l l2 (w.drewN (nq + 1)) (H3.out.below (below_drewN (Below.refl _ w) (nq + 1))) (H32.out.below (below_drewN (Below.refl _ w) (nq + 1))) OK.out OK2.out (by have := HL0.out; have := HL.out; omega) (by have := HL02.out; have := HL2.out; omega)).mono ?_; rintro e w1 ⟨v', l', rfl, hw1, ok1, nm1, hv1, hb1⟩; have HW1 := Lib.hid hw1; have OK1 := Lib.hid ok1; have NM1 := Lib.hid nm1; have HV1 := Lib.hid hv1; have HB1 := Lib.hid ((below_drewN (Below.refl w.heap.size w) (nq + 1)).trans hb1); have q1 := (HB1.out.cell (p := ⟨bx, ox, none⟩) N1).trans h1; have q12 := (HB1.out.cell (p := ⟨bY, oY, none⟩) N12).trans h12; clear hw1 ok1 nm1 hv1 hb1) | (go_simp; go_at_call 72; refine (iput_any _ _ _ _ l' _ (HZ.out.below HB1.out) HW1.out OK1.out NM1.out (len_small NM1.out (by rw [HV1.out]; exact HM.out))).mono ?_; rintro e w2 ⟨rfl, hi2, hr2⟩; have HI2 := Lib.hid hi2; have HR2 := Lib.hid ((Wr.of_below _ _ _ HB1.out).trans hr2); clear hi2 hr2))
    all_goals
      go_wp2_with fail
      go_ret
      exact ⟨rfl, by rw [← HR.out, HE.out, HE2.out, ← sgn_add _ _ _ _ HV1.out]; exact HI2.out, HR2.out⟩
  · have hs' : (neg == neg2) = false := by cases neg <;> cases neg2 <;> simp at hs ⊢
    have HS := Lib.hid hs
    clear hs
    by_cases hle : val l2 ≤ val l
    · have hc : ∃ c : Int, cmpI (val l) (val l2) = c ∧ 0 ≤ c := by
        refine ⟨_, rfl, ?_⟩
        unfold cmpI; rw [if_neg (by omega)]; split <;> omega
      obtain ⟨c, hc, hc0⟩ := hc
      have HC := Lib.hid hc
      have HM : Hid (blen (val l - val l2) ≤ 1000000) := Lib.hid (by have := blen_mono (Nat.sub_le (val l) (val l2)); have := B1.out; omega)
      have HLL := Lib.hid (len_of_le OK.out NM2.out hle)
      have HLE := Lib.hid hle
      clear hc hle
      generalize hL : l.length = len at *
      have HL := Lib.hid hL
      clear hL
      generalize hL : l2.length = len2 at *
      have HL2 := Lib.hid hL
      clear hL
      go_enter Tryz.func66, Tryz.ntmps66
      go_wp2_with fail
      go_quiet (fail)
      go_wp2_with fail
      go_region_law (go_simp; go_at_call 51; refine (compare_any _ _ l l2 (w.drewN (nq + 1)) (H3.out.below (below_drewN (Below.refl _ w) (nq + 1))) (H32.out.below (below_drewN (Below.refl _ w) (nq + 1))) OK.out OK2.out NM.out NM2.out (by have := HL0.out; have := HL.out; omega) (by have := HL02.out; have := HL2.out; omega)).mono ?_; rintro e w5 ⟨rfl, hb5⟩; rw [HC.out]; have HB5 := Lib.hid ((below_drewN (Below.refl w.heap.size w) (nq + 1)).trans hb5); clear hb5)
      all_goals
        have g1 := (HB5.out.cell (p := ⟨bx, ox, none⟩) N1).trans h1
        have g2 := (HB5.out.cell (p := ⟨bx, ox + 1, none⟩) N1).trans h2
        have g12 := (HB5.out.cell (p := ⟨bY, oY, none⟩) N12).trans h12
        have g22 := (HB5.out.cell (p := ⟨bY, oY + 1, none⟩) N12).trans h22
        go_wp2_with fail
        go_region_law (first | (go_simp; go_at_call 92; refine (less_any _ _ l l2 (w5.drewN 1) (H3.out.below (below_drewN HB5.out 1)) (H32.out.below (below_drewN HB5.out 1)) OK.out OK2.out (by have := HL0.out; have := HL.out; have := HL02.out; have := HL2.out; omega) (by have := HLL.out; have := HL.out; have := HL2.out; omega) HLE.out).mono ?_; rintro e w1 ⟨v', l', rfl, hw1, ok1, nm1, hv1, hb1⟩; have HW1 := Lib.hid hw1; have OK1 := Lib.hid ok1; have NM1 := Lib.hid nm1; have HV1 := Lib.hid hv1; have HB1 := Lib.hid ((below_drewN HB5.out 1).trans (hb1.mono (by have := HB5.out.size; simp; omega))); have q1 := (HB1.out.cell (p := ⟨bx, ox, none⟩) N1).trans h1; have q12 := (HB1.out.cell (p := ⟨bY, oY, none⟩) N12).trans h12; clear hw1 ok1 nm1 hv1 hb1) | (go_simp; go_at_call 72; refine (iput_any _ _ _ _ l' _ (HZ.out.below HB1.out) HW1.out OK1.out NM1.out (len_small NM1.out (by rw [HV1.out]; exact HM.out))).mono ?_; rintro e w2 ⟨rfl, hi2, hr2⟩; have HI2 := Lib.hid hi2; have HR2 := Lib.hid ((Wr.of_below _ _ _ HB1.out).trans hr2); clear hi2 hr2))
        all_goals
          go_wp2_with fail
          go_ret
          exact ⟨rfl, by rw [← HR.out, HE.out, HE2.out, ← sgn_less _ _ _ _ _ HS.out HLE.out HV1.out]; exact HI2.out, HR2.out⟩
    · have hc : ∃ c : Int, cmpI (val l) (val l2) = c ∧ c < 0 := by
        refine ⟨_, rfl, ?_⟩
        unfold cmpI; rw [if_pos (by omega)]; omega
      obtain ⟨c, hc, hc0⟩ := hc
      have HC := Lib.hid hc
      have HM : Hid (blen (val l2 - val l) ≤ 1000000) := Lib.hid (by have := blen_mono (Nat.sub_le (val l2) (val l)); have := B2.out; omega)
      have hle' : val l ≤ val l2 := by omega
      have HLL := Lib.hid (len_of_le OK2.out NM.out hle')
      have HLE := Lib.hid hle'
      clear hc hle hle'
      generalize hL : l.length = len at *
      have HL := Lib.hid hL
      clear hL
      generalize hL : l2.length = len2 at *
      have HL2 := Lib.hid hL
      clear hL
      go_enter Tryz.func66, Tryz.ntmps66
      go_wp2_with fail
      go_quiet (fail)
      go_wp2_with fail
      go_region_law (go_simp; go_at_call 51; refine (compare_any _ _ l l2 (w.drewN (nq + 1)) (H3.out.below (below_drewN (Below.refl _ w) (nq + 1))) (H32.out.below (below_drewN (Below.refl _ w) (nq + 1))) OK.out OK2.out NM.out NM2.out (by have := HL0.out; have := HL.out; omega) (by have := HL02.out; have := HL2.out; omega)).mono ?_; rintro e w5 ⟨rfl, hb5⟩; rw [HC.out]; have HB5 := Lib.hid ((below_drewN (Below.refl w.heap.size w) (nq + 1)).trans hb5); clear hb5)
      all_goals
        have g1 := (HB5.out.cell (p := ⟨bx, ox, none⟩) N1).trans h1
        have g2 := (HB5.out.cell (p := ⟨bx, ox + 1, none⟩) N1).trans h2
        have g12 := (HB5.out.cell (p := ⟨bY, oY, none⟩) N12).trans h12
        have g22 := (HB5.out.cell (p := ⟨bY, oY + 1, none⟩) N12).trans h22
        go_wp2_with fail
        go_region_law (first | (go_simp; go_at_call 92; refine (less_any _ _ l2 l (w5.drewN 1) (H32.out.below (below_drewN HB5.out 1)) (H3.out.below (below_drewN HB5.out 1)) OK2.out OK.out (by have := HL0.out; have := HL.out; have := HL02.out; have := HL2.out; omega) (by have := HLL.out; have := HL.out; have := HL2.out; omega) HLE.out).mono ?_; rintro e w1 ⟨v', l', rfl, hw1, ok1, nm1, hv1, hb1⟩; have HW1 := Lib.hid hw1; have OK1 := Lib.hid ok1; have NM1 := Lib.hid nm1; have HV1 := Lib.hid hv1; have HB1 := Lib.hid ((below_drewN HB5.out 1).trans (hb1.mono (by have := HB5.out.size; simp; omega))); have q1 := (HB1.out.cell (p := ⟨bx, ox, none⟩) N1).trans h1; have q12 := (HB1.out.cell (p := ⟨bY, oY, none⟩) N12).trans h12; clear hw1 ok1 nm1 hv1 hb1) | (go_simp; go_at_call 72; refine (iput_any _ _ _ _ l' _ (HZ.out.below HB1.out) HW1.out OK1.out NM1.out (len_small NM1.out (by rw [HV1.out]; exact HM.out))).mono ?_; rintro e w2 ⟨rfl, hi2, hr2⟩; have HI2 := Lib.hid hi2; have HR2 := Lib.hid ((Wr.of_below _ _ _ HB1.out).trans hr2); clear hi2 hr2))
        all_goals
          go_wp2_with fail
          go_ret
          exact ⟨rfl, by rw [← HR.out, HE.out, HE2.out, Int.add_comm, ← sgn_less _ _ _ _ _ (Ne.symm HS.out) HLE.out HV1.out]; exact HI2.out, HR2.out⟩
end Go.Proofs.YtokmommlabdcdaaGreatDoor
namespace Go.Proofs.YtokmommlabdcdaaGreatDoor
open Wd Fl Go.RowKit
set_option linter.unusedVariables false
set_option linter.unusedSimpArgs false
def cmpZ (n m : Int) : Int := if n < m then -1 else if m < n then 1 else 0
theorem cmpZ_pos (l m : List Nat) : cmpZ (sgn false l) (sgn false m) = cmpI (val l) (val m) := by
  unfold cmpZ cmpI sgn; simp only [Bool.false_eq_true, if_false]; (repeat' split) <;> omega
theorem cmpZ_neg (l m : List Nat) : cmpZ (sgn true l) (sgn true m) = cmpI (val m) (val l) := by
  unfold cmpZ cmpI sgn; simp only [if_true]; (repeat' split) <;> omega
theorem cmpZ_np {l m : List Nat} (nm : Nm l) (h : l ≠ []) : cmpZ (sgn true l) (sgn false m) = -1 := by
  have := nm.pos h
  unfold cmpZ sgn; simp only [if_true, Bool.false_eq_true, if_false]; rw [if_pos (by omega)]
theorem cmpZ_pn {l m : List Nat} (nm : Nm m) (h : m ≠ []) : cmpZ (sgn false l) (sgn true m) = 1 := by
  have := nm.pos h
  unfold cmpZ sgn; simp only [if_true, Bool.false_eq_true, if_false]; rw [if_neg (by omega), if_pos (by omega)]
set_option maxRecDepth 100000 in
set_option maxHeartbeats 4000000 in
theorem cmp_any (bx ox bY oY : Nat) (n m : Int) (w : World) (hx : IntAt TW w ⟨bx, ox, none⟩ n) (hy : IntAt TW w ⟨bY, oY, none⟩ m) (hn : bl n ≤ 100000) (hm : bl m ≤ 100000) :
    Calls Tryz.prog 58 #[.pointer (some ⟨bx, ox, none⟩), .pointer (some ⟨bY, oY, none⟩)] w fun e w' => e = .returned (.int .i64 (cmpZ n m)) ∧ Below w.heap.size w w' := by
  obtain ⟨neg, a, cap, l, h1, h2, H3, OK, NM, HN, HE, HK, N1⟩ := IntAt.open hx
  obtain ⟨neg2, a2, cap2, l2, h12, h22, H32, OK2, NM2, HN2, HE2, HK2, N12⟩ := IntAt.open hy
  have HL0 := Lib.hid (HK.out _ hn)
  have HL02 := Lib.hid (HK2.out _ hm)
  have hE := HE.out
  have hE2 := HE2.out
  have HLI : Hid (l.length ≤ 4611686018427387904) := Lib.hid (by have := HL0.out; omega)
  have HLI2 : Hid (l2.length ≤ 4611686018427387904) := Lib.hid (by have := HL02.out; omega)
  clear hx hy hn hm
  obtain ⟨c, hc⟩ : ∃ c, cmpZ n m = c := ⟨_, rfl⟩
  rw [hc]
  rw [hE, hE2] at hc
  cases neg <;> cases neg2
  · rw [cmpZ_pos] at hc
    have HC := Lib.hid hc
    clear hE hE2 hc
    go_enter Tryz.func58, Tryz.ntmps58
    go_wp2_with fail
    go_quiet (fail)
    go_wp2_with fail
    go_region_law (go_simp; go_at_call 51; refine (compare_any _ _ l l2 (w.drewN (nq + 1)) (H3.out.below (below_drewN (Below.refl _ w) (nq + 1))) (H32.out.below (below_drewN (Below.refl _ w) (nq + 1))) OK.out OK2.out NM.out NM2.out HLI.out HLI2.out).mono ?_; rintro e w5 ⟨rfl, hb5⟩; rw [HC.out]; have HB5 := Lib.hid ((below_drewN (Below.refl w.heap.size w) (nq + 1)).trans hb5); clear hb5)
    all_goals
      go_wp2_with fail
      go_ret
      exact ⟨rfl, HB5.out⟩
  · rw [cmpZ_pn NM2.out (HN2.out rfl)] at hc
    rw [← hc]
    clear hE hE2 hc
    go_enter Tryz.func58, Tryz.ntmps58
    go_wp2_with fail
    go_quiet (fail)
    go_wp2_with fail
    go_ret
    exact ⟨rfl, below_drewN (Below.refl _ w) _⟩
  · rw [cmpZ_np NM.out (HN.out rfl)] at hc
    rw [← hc]
    clear hE hE2 hc
    go_enter Tryz.func58, Tryz.ntmps58
    go_wp2_with fail
    go_quiet (fail)
    go_wp2_with fail
    go_ret
    exact ⟨rfl, below_drewN (Below.refl _ w) _⟩
  · rw [cmpZ_neg] at hc
    have HC := Lib.hid hc
    clear hE hE2 hc
    go_enter Tryz.func58, Tryz.ntmps58
    go_wp2_with fail
    go_quiet (fail)
    go_wp2_with fail
    go_region_law (go_simp; go_at_call 51; refine (compare_any _ _ l2 l (w.drewN (nq + 1)) (H32.out.below (below_drewN (Below.refl _ w) (nq + 1))) (H3.out.below (below_drewN (Below.refl _ w) (nq + 1))) OK2.out OK.out NM2.out NM.out HLI2.out HLI.out).mono ?_; rintro e w5 ⟨rfl, hb5⟩; rw [HC.out]; have HB5 := Lib.hid ((below_drewN (Below.refl w.heap.size w) (nq + 1)).trans hb5); clear hb5)
    all_goals
      go_wp2_with fail
      go_ret
      exact ⟨rfl, HB5.out⟩
set_option maxRecDepth 100000 in
set_option maxHeartbeats 4000000 in
theorem uint64_any (bx ox : Nat) (n : Int) (w : World) (hx : IntAt TW w ⟨bx, ox, none⟩ n) (hn : n.natAbs < 18446744073709551616) :
    Calls Tryz.prog 47 #[.pointer (some ⟨bx, ox, none⟩)] w fun e w' => e = .returned (.int .u64 (n.natAbs : Nat)) ∧ w = w' := by
  obtain ⟨neg, a, cap, l, h1, h2, H3, OK, NM, HN, HE, HK, N1⟩ := IntAt.open hx
  have e1 : n.natAbs = val l := by rw [HE.out, sgn_abs]
  rw [e1] at hn ⊢
  have hl : l.length ≤ 2 := length_le NM.out hn
  have ha := H3.out
  have oa := OK.out
  clear hx hn e1 OK NM HN HE HK H3 h1
  match l, hl with
  | [], _ =>
    simp only [List.length_nil] at h2
    clear ha oa
    go_enter Tryz.func47, Tryz.ntmps47
    go_wp2
    go_ret
    exact ⟨rfl, rfl⟩
  | [x], _ =>
    obtain ⟨_, b, off, rfl, hc, ht, hf⟩ := wcell ha (by simp)
    have hf0 := hf 0 (by simp)
    simp only [List.length_singleton, Nat.add_zero, List.getD_cons_zero] at hf0 hc h2
    have hx := oa x (by simp)
    have hxI : (x : Int) < 4294967296 := by omega
    have hcI : (1 : Int) ≤ (cap : Int) := by omega
    rw [val_single]
    clear ha oa hf ht hc hx
    go_enter Tryz.func47, Tryz.ntmps47
    go_wp2
    go_ret
    exact ⟨rfl, rfl⟩
  | [x, y], _ =>
    obtain ⟨_, b, off, rfl, hc, ht, hf⟩ := wcell ha (by simp)
    have hf0 := hf 0 (by simp)
    have hf1 := hf 1 (by simp)
    simp only [List.length_cons, List.length_nil, Nat.zero_add, Nat.add_zero, List.getD_cons_zero, List.getD_cons_succ] at hf0 hf1 hc h2
    have hx := oa x (by simp)
    have hy := oa y (by simp)
    have hxI : (x : Int) < 4294967296 := by omega
    have hyI : (y : Int) < 4294967296 := by omega
    have hcI : (2 : Int) ≤ (cap : Int) := by omega
    obtain ⟨v, hv⟩ : ∃ v, val [x, y] = v := ⟨_, rfl⟩
    have hv2 : v = x + 4294967296 * y := by rw [← hv]; simp [val]
    rw [hv]
    have HV := Lib.hid hv2
    have HX := Lib.hid hx
    have HY := Lib.hid hy
    clear ha oa hf ht hc hx hy hv hv2
    go_enter Tryz.func47, Tryz.ntmps47
    go_wp2
    go_ret
    refine ⟨ret_int ?_, rfl⟩
    have h := u64_or_nat x (y * 4294967296) (by have := HX.out; omega) (by have := HY.out; omega)
    rw [Int.natCast_mul] at h
    rw [show ((4294967296 : Nat) : Int) = 4294967296 from rfl] at h
    rw [h, Nat.or_comm, nat_join 32 _ _ (by omega) HX.out, HV.out]
    omega
end Go.Proofs.YtokmommlabdcdaaGreatDoor
set_option linter.unusedVariables false
set_option linter.unusedSimpArgs false
namespace Go.Proofs.YtokmommlabdcdaaGreatDoor
open Wd Fl Go.RowKit
theorem ibwr {w W W' : World} {b lo hi : Nat} (h : Below w.heap.size w W) (g : Wr b lo hi W W') (hb : w.heap.size ≤ b) : Below w.heap.size w W' := h.trans (g.below hb h.size)
theorem ibal {w W : World} {c : Obj} (h : Below w.heap.size w W) : Below w.heap.size w (W.alloc c) := h.trans (((Below.refl _ _).alloc (Nat.le_refl _) c).mono h.size)
theorem iznew (w : World) : ZAt TW (w.alloc (.cells #[.bool false, .slice none 0 0] 60)) w.heap.size 0 2 := ZAt.new TW w _ _ (by decide) 2 (by decide)
theorem ibnew (w : World) (c : Obj) : Below w.heap.size w (w.alloc c) := (Below.refl _ _).alloc (Nat.le_refl _) _
theorem inewW {w w1 : World} {c : Obj} {n : Nat} (h : Wr w.heap.size 0 n (w.alloc c) w1) : Below w.heap.size w w1 := (ibnew w c).trans (h.below (Nat.le_refl _) (by simp))
set_option maxRecDepth 100000 in
set_option maxHeartbeats 4000000 in
theorem isub_any (bz oz bx ox bY oY : Nat) (n m : Int) (w : World) (hz : ZAt TW w bz oz 2) (hx : IntAt TW w ⟨bx, ox, none⟩ n) (hy : IntAt TW w ⟨bY, oY, none⟩ m) (hn : bl n ≤ 100000) (hm : bl m ≤ 100000) :
    Calls Tryz.prog 68 #[.pointer (some ⟨bz, oz, none⟩), .pointer (some ⟨bx, ox, none⟩), .pointer (some ⟨bY, oY, none⟩)] w (IntRet TW bz oz (n - m) w) := by
  have HZ := Lib.hid hz
  have HX := Lib.hid hx
  have HY := Lib.hid hy
  have HN := Lib.hid hn
  have HM := Lib.hid hm
  clear hz hx hy hn hm
  go_enter Tryz.func68, Tryz.ntmps68
  go_wp2_with fail
  refine (ineg_any w.heap.size 0 bY oY m _ (iznew w) (HY.out.below (ibnew w _)) HM.out).mono ?_
  rintro e w1 ⟨rfl, hi, hr⟩
  have B1 := Lib.hid (inewW hr)
  have I1 := Lib.hid hi
  clear hi hr
  go_wp2_with fail
  refine (iadd_any bz oz bx ox w.heap.size 0 n (-m) w1 (HZ.out.below B1.out) (HX.out.below B1.out) I1.out HN.out (by rw [bl_neg]; exact HM.out)).mono ?_
  rintro e w2 ⟨rfl, hi, hr⟩
  have I2 := Lib.hid hi
  have R2 := Lib.hid ((Wr.of_below bz oz (oz + 2) B1.out).trans hr)
  clear hi hr
  go_wp2_with fail
  go_ret
  exact ⟨rfl, by rw [Int.sub_eq_add_neg]; exact I2.out, R2.out⟩
set_option maxRecDepth 100000 in
set_option maxHeartbeats 4000000 in
theorem inot_any (bz oz bx ox : Nat) (n : Int) (w : World) (hz : ZAt TW w bz oz 2) (hx : IntAt TW w ⟨bx, ox, none⟩ n) (hn : bl n ≤ 100000) :
    Calls Tryz.prog 90 #[.pointer (some ⟨bz, oz, none⟩), .pointer (some ⟨bx, ox, none⟩)] w (IntRet TW bz oz (-n - 1) w) := by
  have HZ := Lib.hid hz
  have HX := Lib.hid hx
  have HN := Lib.hid hn
  clear hz hx hn
  go_enter Tryz.func90, Tryz.ntmps90
  go_wp2_with fail
  refine (ineg_any w.heap.size 0 bx ox n _ (iznew w) (HX.out.below (ibnew w _)) HN.out).mono ?_
  rintro e w1 ⟨rfl, hi, hr⟩
  have B1 := Lib.hid (inewW hr)
  have I1 := Lib.hid hi
  clear hi hr
  go_wp2_with fail
  refine (newInt_any 1 w1 (by decide) (by decide)).mono ?_
  rintro e w2 ⟨b2, rfl, hle, hi, hb⟩
  have B2 := Lib.hid (B1.out.trans (hb.mono B1.out.size))
  have I2 := Lib.hid (I1.out.below hb)
  have O2 := Lib.hid hi
  clear hle hi hb
  go_wp2_with fail
  refine (isub_any bz oz w.heap.size 0 b2 0 (-n) 1 w2 (HZ.out.below B2.out) I2.out O2.out (by rw [bl_neg]; exact HN.out) (by decide)).mono ?_
  rintro e w3 ⟨rfl, hi, hr⟩
  have I3 := Lib.hid hi
  have R3 := Lib.hid ((Wr.of_below bz oz (oz + 2) B2.out).trans hr)
  clear hi hr
  go_wp2_with fail
  go_ret
  exact ⟨rfl, I3.out, R3.out⟩
theorem rsignbit_any (x : Nat) (hx : x < 2 ^ 64) (w : World) :
    Calls Tryz.prog 21 #[.float .f64 x] w fun e w' => e = .returned (.bool (sg x)) ∧ w = w' := by
  have h2 := f64bits_run
  have e : decide (RowKit.wrap64 (x : Int) < 0) = sg x := by
    have hr := rg_lt x
    cases hs : sg x
    · rw [place_pos x hx hs, pl_false hs]; exact decide_eq_false (by omega)
    · have := sg_true hx hs
      unfold RowKit.wrap64
      exact decide_eq_true (by omega)
  have E := Lib.hid e; clear e hx
  go_enter Tryz.func21, Tryz.ntmps21
  go_wp2
  go_ret
  exact ⟨ret_bool E.out, rfl⟩
theorem rmnan_any (w : World) :
    Calls Tryz.prog 69 #[] w fun e w' => e = .returned (.float .f64 9221120237041090561) ∧ w = w' := by
  have h4 := frombits_run
  go_enter Tryz.func69, Tryz.ntmps69
  go_wp2
  go_ret
  exact ⟨rfl, rfl⟩
theorem rnone_any (x : Nat) (w : World) :
    Calls Tryz.prog 61 #[.float .f64 x] w fun e w' => e = .returned (.bool (decide (isNan x))) ∧ w = w' := by
  have e : (FloatKind.f64.format.order x x == some Ordering.eq) = decide (¬ isNan x) := beq_dec (order_self x)
  have E := Lib.hid e; clear e
  go_enter Tryz.func61, Tryz.ntmps61
  go_wp2
  go_ret
  exact ⟨ret_bool (by unfold bne; rw [E.out]; by_cases h : isNan x <;> simp [h]), rfl⟩
set_option maxRecDepth 100000 in
set_option maxHeartbeats 4000000 in
theorem rank_any (x : Nat) (hx : x < 2 ^ 64) (w : World) :
    Calls Tryz.prog 67 #[.float .f64 x] w (NewRet TW (pl x) w) := by
  have h3 := f64bits_run
  have HX := Lib.hid hx
  have HR := Lib.hid (rg_lt x)
  have GX := Lib.hid (rsignbit_any x hx)
  have hbl : bl ((rg x : Nat) : Int) ≤ 64 := by unfold bl; rw [Int.natAbs_natCast]; exact blen_of_lt (Nat.lt_trans (rg_lt x) (by decide))
  have HB := Lib.hid hbl
  cases hs : sg x
  · have HP := Lib.hid (pl_false hs)
    rw [hs] at GX
    clear hx hs hbl
    go_enter Tryz.func67, Tryz.ntmps67
    go_wp2_with fail
    refine (abs_any x HX.out _).mono ?_
    rintro e w' ⟨rfl, rfl⟩
    go_wp2_with fail
    refine (setUint64_any w.heap.size 0 (rg x) _ (iznew w) (Nat.lt_trans HR.out (by decide))).mono ?_
    rintro e w1 ⟨rfl, hi, hr⟩
    have B1 := Lib.hid (inewW hr)
    have I1 := Lib.hid hi
    clear hi hr
    go_wp2_with fail
    refine (GX.out _).mono ?_
    rintro e w' ⟨rfl, rfl⟩
    go_wp2_with fail
    go_ret
    exact ⟨_, rfl, Nat.le_refl _, by rw [HP.out]; exact I1.out, B1.out⟩
  · have HP := Lib.hid (pl_true hs)
    rw [hs] at GX
    clear hx hs hbl
    go_enter Tryz.func67, Tryz.ntmps67
    go_wp2_with fail
    refine (abs_any x HX.out _).mono ?_
    rintro e w' ⟨rfl, rfl⟩
    go_wp2_with fail
    refine (setUint64_any w.heap.size 0 (rg x) _ (iznew w) (Nat.lt_trans HR.out (by decide))).mono ?_
    rintro e w1 ⟨rfl, hi, hr⟩
    have B1 := Lib.hid (inewW hr)
    have I1 := Lib.hid hi
    clear hi hr
    go_wp2_with fail
    refine (GX.out _).mono ?_
    rintro e w' ⟨rfl, rfl⟩
    go_wp2_with fail
    refine (inot_any w.heap.size 0 w.heap.size 0 (rg x : Int) w1 I1.out.z I1.out (Nat.le_trans HB.out (by decide))).mono ?_
    rintro e w2 ⟨rfl, hi, hr⟩
    have B2 := Lib.hid (ibwr B1.out hr (Nat.le_refl _))
    have I2 := Lib.hid hi
    clear hi hr
    go_wp2_with fail
    go_ret
    refine ⟨_, rfl, Nat.le_refl _, ?_, B2.out⟩
    rw [HP.out, show -1 - (rg x : Int) = -(rg x : Int) - 1 by omega]
    exact I2.out
theorem bl_pl (x : Nat) : bl (pl x) ≤ 64 := by
  have h := pl_bounds x
  unfold bl
  exact blen_of_lt (by omega)
theorem gt_top {x : Nat} (nx : ¬ isNan x) : (FloatKind.f64.format.order x 9218868437227405311 == some Ordering.gt) = decide (pl x = 9218868437227405312) := by
  refine beq_dec ?_
  show D.order x 9218868437227405311 = some .gt ↔ _
  have p2 : pl 9218868437227405311 = 9218868437227405311 := by decide
  have b := pl_num nx
  rw [(order_pl nx (by decide) (by have : rg 9218868437227405311 ≠ 0 := by decide
                                   omega)).1, p2]
  omega
theorem lt_bot {x : Nat} (nx : ¬ isNan x) : (FloatKind.f64.format.order x 18442240474082181119 == some Ordering.lt) = decide (pl x = -9218868437227405313) := by
  refine beq_dec ?_
  show D.order x 18442240474082181119 = some .lt ↔ _
  have p2 : pl 18442240474082181119 = -9218868437227405312 := by decide
  have b := pl_num nx
  rw [(order_pl nx (by decide) (by have : rg 18442240474082181119 ≠ 0 := by decide
                                   omega)).2.1, p2]
  omega
theorem fin_pl {x : Nat} (nx : ¬ isNan x) : fin x ↔ pl x ≠ 9218868437227405312 ∧ pl x ≠ -9218868437227405313 := by
  unfold isNan INF at nx
  unfold fin pl INF
  cases sg x
  · simp only [Bool.false_eq_true, if_false]; omega
  · simp only [if_true]; omega
theorem rinf_any (x : Nat) (nx : ¬ isNan x) (w : World) :
    Calls Tryz.prog 62 #[.float .f64 x] w fun e w' => e = .returned (.bool (decide (¬ fin x))) ∧ w = w' := by
  have h1 := gt_top nx
  have h2 := lt_bot nx
  have HF := fin_pl nx
  by_cases c1 : pl x = 9218868437227405312
  · rw [decide_eq_true c1] at h1
    have e : decide (¬ fin x) = true := decide_eq_true (fun h => (HF.1 h).1 c1)
    rw [e]
    clear e HF c1 nx h2
    go_enter Tryz.func62, Tryz.ntmps62
    go_wp2
    go_ret
    exact ⟨rfl, rfl⟩
  · rw [decide_eq_false c1] at h1
    by_cases c2 : pl x = -9218868437227405313
    · rw [decide_eq_true c2] at h2
      have e : decide (¬ fin x) = true := decide_eq_true (fun h => (HF.1 h).2 c2)
      rw [e]
      clear e HF c1 c2 nx
      go_enter Tryz.func62, Tryz.ntmps62
      go_wp2
      go_ret
      exact ⟨rfl, rfl⟩
    · rw [decide_eq_false c2] at h2
      have e : decide (¬ fin x) = false := decide_eq_false (fun h => h (HF.2 ⟨c1, c2⟩))
      rw [e]
      clear e HF c1 c2 nx
      go_enter Tryz.func62, Tryz.ntmps62
      go_wp2
      go_ret
      exact ⟨rfl, rfl⟩
theorem copysign_any (r : Nat) (hr : r < 2 ^ 63) (w : World) :
    Calls Tryz.prog 76 #[.float .f64 r, .float .f64 13830554455654793216] w fun e w' => e = .returned (.float .f64 (wd true r)) ∧ w = w' := by
  have h3 := f64bits_run
  have h4 := frombits_run
  have a1 : bits .andNot .u64 (r : Int) 9223372036854775808 = (r : Int) := by rw [bits_size r (by omega)]; congr 1; exact Nat.mod_eq_of_lt hr
  have a2 : bits .and .u64 13830554455654793216 9223372036854775808 = 9223372036854775808 := by decide +kernel
  have a3 : bits .or .u64 (r : Int) 9223372036854775808 = ((wd true r : Nat) : Int) := by
    have := u64_or_nat r 9223372036854775808 (by omega) (by decide)
    rw [show ((9223372036854775808 : Nat) : Int) = 9223372036854775808 from rfl] at this
    rw [this, Nat.or_comm]
    have j := nat_join 63 9223372036854775808 r (by decide) hr
    rw [j]; unfold wd; rfl
  obtain ⟨v, hv⟩ : ∃ v, wd true r = v := ⟨_, rfl⟩
  rw [hv] at a3 ⊢
  clear hr hv
  go_enter Tryz.func76, Tryz.ntmps76
  go_wp2
  go_ret
  exact ⟨rfl, rfl⟩
def FloB (f : Nat) (w : World) (e : Ending) (w' : World) : Prop := e = .returned (.float .f64 f) ∧ Below w.heap.size w w'
set_option maxRecDepth 100000 in
set_option maxHeartbeats 4000000 in
theorem rat_any (y b : Nat) (hy : y < 2 ^ 64) (w : World) (hx : IntAt TW w ⟨b, 0, none⟩ (pl y)) :
    Calls Tryz.prog 65 #[.pointer (some ⟨b, 0, none⟩)] w (FloB y w) := by
  have h4 := frombits_run
  have HB := Lib.hid (Nat.le_trans (bl_pl y) (show 64 ≤ 100000 by decide))
  have HX := Lib.hid hx
  have S := Lib.hid (isign_any b 0 (pl y) w hx HB.out)
  have hr := rg_lt y
  cases hs : sg y
  · have hp := pl_false hs
    have U := Lib.hid (uint64_any b 0 (pl y) w hx (by rw [hp, Int.natAbs_natCast]; omega))
    have e : rg y = y := by rw [← wd_sg_rg y hy, hs] ; exact rg_wd _ _ hr
    rw [hp] at S U
    have s0 : ¬ sigI (rg y : Int) < 0 := by unfold sigI; split; omega; split <;> omega
    generalize sigI (rg y : Int) = sI at *
    have e2 : ((rg y : Int)).natAbs = rg y := Int.natAbs_natCast _
    rw [e] at U
    have E := Lib.hid e
    rw [Int.natAbs_natCast] at U
    clear hx hy hs hp hr e e2 HX
    go_enter Tryz.func65, Tryz.ntmps65
    go_wp2_with fail
    refine S.out.mono ?_
    rintro e w1 ⟨rfl, rfl⟩
    go_wp2_with fail
    refine U.out.mono ?_
    rintro e w1 ⟨rfl, rfl⟩
    go_wp2_with fail
    go_ret
    exact ⟨rfl, Below.refl _ _⟩
  · have hp := pl_true hs
    have s0 : sigI (pl y) < 0 := by rw [hp]; unfold sigI; rw [if_pos (by omega)]; decide
    have CS := Lib.hid (copysign_any (rg y) hr)
    have ey : wd true (rg y) = y := by rw [← hs]; exact wd_sg_rg y hy
    rw [ey] at CS
    have e1 : -pl y - 1 = (rg y : Int) := by rw [hp]; omega
    generalize sigI (pl y) = sI at *
    have HR := Lib.hid (Nat.lt_trans hr (show 2 ^ 63 < 18446744073709551616 by decide))
    have E1 := Lib.hid e1
    generalize rg y = R at *
    clear hx hy hs hp hr e1 ey
    go_enter Tryz.func65, Tryz.ntmps65
    go_wp2_with fail
    refine S.out.mono ?_
    rintro e w1 ⟨rfl, rfl⟩
    go_wp2_with fail
    refine (inot_any w.heap.size 0 b 0 (pl y) _ (iznew w) (HX.out.below (ibnew w _)) HB.out).mono ?_
    rintro e w1 ⟨rfl, hi, hr⟩
    rw [E1.out] at hi
    have B1 := Lib.hid (inewW hr)
    have U := Lib.hid (uint64_any w.heap.size 0 (R : Int) w1 hi (by rw [Int.natAbs_natCast]; exact HR.out))
    rw [Int.natAbs_natCast] at U
    clear hi hr
    go_wp2_with fail
    refine U.out.mono ?_
    rintro e w2 ⟨rfl, rfl⟩
    go_wp2_with fail
    refine (CS.out _).mono ?_
    rintro e w2 ⟨rfl, rfl⟩
    go_wp2_with fail
    go_ret
    exact ⟨rfl, B1.out⟩
end Go.Proofs.YtokmommlabdcdaaGreatDoor
namespace Go.Proofs.YtokmommlabdcdaaGreatDoor
open Wd Fl Go.RowKit
set_option linter.unusedVariables false
set_option linter.unusedSimpArgs false
theorem sgn_mul (p q : Bool) (l m r : List Nat) (h : val r = val l * val m) : sgn (p != q) r = sgn p l * sgn q m := by
  unfold sgn; rw [h]; cases p <;> cases q <;> simp [Int.neg_mul, Int.mul_neg]
set_option maxRecDepth 100000 in
set_option maxHeartbeats 8000000 in
theorem imul_any (bz oz bx ox bY oY : Nat) (n m : Int) (w : World) (hz : ZAt TW w bz oz 2) (hx : IntAt TW w ⟨bx, ox, none⟩ n) (hy : IntAt TW w ⟨bY, oY, none⟩ m) (hn : bl n ≤ 100000) (hm : bl m ≤ 100000) (h48 : bl n ≤ 1500 ∨ bl m ≤ 1500) :
    Calls Tryz.prog 53 #[.pointer (some ⟨bz, oz, none⟩), .pointer (some ⟨bx, ox, none⟩), .pointer (some ⟨bY, oY, none⟩)] w (IntRet TW bz oz (n * m) w) := by
  obtain ⟨neg, a, cap, l, h1, h2, H3, OK, NM, HN, HE, HK, N1⟩ := IntAt.open hx
  obtain ⟨neg2, a2, cap2, l2, h12, h22, H32, OK2, NM2, HN2, HE2, HK2, N12⟩ := IntAt.open hy
  have HZ := Lib.hid hz
  have H3D := Lib.hid (H3.out.below (Below.refl _ w).drew)
  have H3D2 := Lib.hid (H32.out.below (Below.refl _ w).drew)
  have HL0 := Lib.hid (HK.out _ hn)
  have HL02 := Lib.hid (HK2.out _ hm)
  have H48 : Hid (l.length < 48 ∨ l2.length < 48) := Lib.hid (by have a1 := HK.out 1500; have a2 := HK2.out 1500; omega)
  have HM : Hid (blen (val l * val l2) ≤ 1000000) := Lib.hid (by
    have h1 := blen_mul (val l) (val l2)
    have h2 : blen (val l) ≤ 100000 := by unfold bl at hn; rw [HE.out, sgn_abs] at hn; exact hn
    have h3 : blen (val l2) ≤ 100000 := by unfold bl at hm; rw [HE2.out, sgn_abs] at hm; exact hm
    omega)
  obtain ⟨r, hr⟩ : ∃ r, n * m = r := ⟨_, rfl⟩
  rw [hr]
  have HR := Lib.hid hr
  clear hz hx hn hr hm hy h48
  generalize hL : l.length = len at *
  have HL := Lib.hid hL
  clear hL
  generalize hL : l2.length = len2 at *
  have HL2 := Lib.hid hL
  clear hL
  go_enter Tryz.func53, Tryz.ntmps53
  go_wp2_with fail
  go_region_law (first | (go_simp; go_at_call 79; refine (product_any _ _ l l2 w.drew H3D.out H3D2.out OK.out OK2.out (by have := HL0.out; have := HL.out; omega) (by have := HL02.out; have := HL2.out; omega) (by have := H48.out; have := HL.out; have := HL2.out; omega)).mono ?_; rintro e w1 ⟨v', l', rfl, hw1, ok1, nm1, hv1, hb1⟩; have HW1 := Lib.hid hw1; have OK1 := Lib.hid ok1; have NM1 := Lib.hid nm1; have HV1 := Lib.hid hv1; have HB1 := Lib.hid ((Below.refl w.heap.size w).drew.trans hb1); have q1 := (HB1.out.cell (p := ⟨bx, ox, none⟩) N1).trans h1; have q12 := (HB1.out.cell (p := ⟨bY, oY, none⟩) N12).trans h12; clear hw1 ok1 nm1 hv1 hb1) | (go_simp; go_at_call 72; refine (iput_any _ _ _ _ l' _ (HZ.out.below HB1.out) HW1.out OK1.out NM1.out (len_small NM1.out (by rw [HV1.out]; exact HM.out))).mono ?_; rintro e w2 ⟨rfl, hi2, hr2⟩; have HI2 := Lib.hid hi2; have HR2 := Lib.hid ((Wr.of_below _ _ _ HB1.out).trans hr2); clear hi2 hr2))
  all_goals
    go_wp2_with fail
    go_ret
    exact ⟨rfl, by rw [← HR.out, HE.out, HE2.out, ← sgn_mul _ _ _ _ _ HV1.out]; exact HI2.out, HR2.out⟩
end Go.Proofs.YtokmommlabdcdaaGreatDoor
set_option linter.unusedVariables false
set_option linter.unusedSimpArgs false
namespace Go.Proofs.YtokmommlabdcdaaGreatDoor
open Wd Fl Go.RowKit
theorem bl_pl' (x : Nat) : bl (pl x) ≤ 100000 := Nat.le_trans (bl_pl x) (by decide)
set_option maxRecDepth 100000 in
set_option maxHeartbeats 4000000 in
theorem rnext_any (x : Nat) (hx : x < 2 ^ 64) (w : World) :
    Calls Tryz.prog 26 #[.float .f64 x] w (FloB (nxt x) w) := by
  have NX := rnone_any x
  by_cases nx : isNan x
  · rw [decide_eq_true nx] at NX
    rw [nxt_nan nx]
    have NX := Lib.hid NX
    clear hx nx
    go_enter Tryz.func26, Tryz.ntmps26
    go_wp2_with fail
    refine (NX.out _).mono ?_
    rintro e w' ⟨rfl, rfl⟩
    go_wp2_with fail
    go_ret
    exact ⟨rfl, Below.refl _ _⟩
  · rw [decide_eq_false nx] at NX
    have NX := Lib.hid NX
    have h1 := gt_top nx
    by_cases c1 : pl x = 9218868437227405312
    · rw [decide_eq_true c1] at h1
      rw [nxt_end c1]
      clear hx nx c1
      go_enter Tryz.func26, Tryz.ntmps26
      go_wp2_with fail
      refine (NX.out _).mono ?_
      rintro e w' ⟨rfl, rfl⟩
      go_wp2_with fail
      go_ret
      exact ⟨rfl, Below.refl _ _⟩
    · rw [decide_eq_false c1] at h1
      obtain ⟨l1, l2, l3⟩ := nxt_num nx c1
      have RK := Lib.hid (rank_any x hx)
      have PB := Lib.hid (bl_pl' x)
      have AT := Lib.hid (fun b W h => rat_any (nxt x) b l1 W h)
      have PE := Lib.hid l2
      generalize nxt x = y at *
      clear hx nx c1 l1 l2 l3
      go_enter Tryz.func26, Tryz.ntmps26
      go_wp2_with fail
      refine (NX.out _).mono ?_
      rintro e w' ⟨rfl, rfl⟩
      go_wp2_with fail
      refine (RK.out _).mono ?_
      rintro e w1 ⟨b1, rfl, hle, hi, hb⟩
      have Z1 := Lib.hid ((iznew w).below hb)
      have B1 := Lib.hid ((ibnew w (.cells #[.bool false, .slice none 0 0] 60)).trans (hb.mono (ibnew w (.cells #[.bool false, .slice none 0 0] 60)).size))
      have I1 := Lib.hid hi
      clear hle hi hb
      go_wp2_with fail
      refine (newInt_any 1 w1 (by decide) (by decide)).mono ?_
      rintro e w2 ⟨b2, rfl, hle, hi, hb⟩
      have Z2 := Lib.hid (Z1.out.below hb)
      have B2 := Lib.hid (B1.out.trans (hb.mono B1.out.size))
      have I2 := Lib.hid (I1.out.below hb)
      have J2 := Lib.hid hi
      clear hle hi hb
      go_wp2_with fail
      refine (iadd_any w.heap.size 0 b1 0 b2 0 (pl x) 1 w2 Z2.out I2.out J2.out PB.out (by decide)).mono ?_
      rintro e w3 ⟨rfl, hi, hr⟩
      rw [← PE.out] at hi
      have B3 := Lib.hid (ibwr B2.out hr (Nat.le_refl _))
      have I3 := Lib.hid hi
      clear hi hr
      go_wp2_with fail
      refine (AT.out _ w3 I3.out).mono ?_
      rintro e w4 ⟨rfl, hb⟩
      have B4 := Lib.hid (B3.out.trans (hb.mono B3.out.size))
      clear hb
      go_wp2_with fail
      go_ret
      exact ⟨rfl, B4.out⟩
set_option maxRecDepth 100000 in
set_option maxHeartbeats 4000000 in
theorem rprev_any (x : Nat) (hx : x < 2 ^ 64) (w : World) :
    Calls Tryz.prog 28 #[.float .f64 x] w (FloB (prv x) w) := by
  have NX := rnone_any x
  by_cases nx : isNan x
  · rw [decide_eq_true nx] at NX
    rw [prv_nan nx]
    have NX := Lib.hid NX
    clear hx nx
    go_enter Tryz.func28, Tryz.ntmps28
    go_wp2_with fail
    refine (NX.out _).mono ?_
    rintro e w' ⟨rfl, rfl⟩
    go_wp2_with fail
    go_ret
    exact ⟨rfl, Below.refl _ _⟩
  · rw [decide_eq_false nx] at NX
    have NX := Lib.hid NX
    have h1 := lt_bot nx
    by_cases c1 : pl x = -9218868437227405313
    · rw [decide_eq_true c1] at h1
      rw [prv_end c1]
      clear hx nx c1
      go_enter Tryz.func28, Tryz.ntmps28
      go_wp2_with fail
      refine (NX.out _).mono ?_
      rintro e w' ⟨rfl, rfl⟩
      go_wp2_with fail
      go_ret
      exact ⟨rfl, Below.refl _ _⟩
    · rw [decide_eq_false c1] at h1
      obtain ⟨l1, l2, l3⟩ := prv_num nx c1
      have RK := Lib.hid (rank_any x hx)
      have PB := Lib.hid (bl_pl' x)
      have AT := Lib.hid (fun b W h => rat_any (prv x) b l1 W h)
      have PE := Lib.hid l2
      generalize prv x = y at *
      clear hx nx c1 l1 l2 l3
      go_enter Tryz.func28, Tryz.ntmps28
      go_wp2_with fail
      refine (NX.out _).mono ?_
      rintro e w' ⟨rfl, rfl⟩
      go_wp2_with fail
      refine (RK.out _).mono ?_
      rintro e w1 ⟨b1, rfl, hle, hi, hb⟩
      have Z1 := Lib.hid ((iznew w).below hb)
      have B1 := Lib.hid ((ibnew w (.cells #[.bool false, .slice none 0 0] 60)).trans (hb.mono (ibnew w (.cells #[.bool false, .slice none 0 0] 60)).size))
      have I1 := Lib.hid hi
      clear hle hi hb
      go_wp2_with fail
      refine (newInt_any 1 w1 (by decide) (by decide)).mono ?_
      rintro e w2 ⟨b2, rfl, hle, hi, hb⟩
      have Z2 := Lib.hid (Z1.out.below hb)
      have B2 := Lib.hid (B1.out.trans (hb.mono B1.out.size))
      have I2 := Lib.hid (I1.out.below hb)
      have J2 := Lib.hid hi
      clear hle hi hb
      go_wp2_with fail
      refine (isub_any w.heap.size 0 b1 0 b2 0 (pl x) 1 w2 Z2.out I2.out J2.out PB.out (by decide)).mono ?_
      rintro e w3 ⟨rfl, hi, hr⟩
      rw [← PE.out] at hi
      have B3 := Lib.hid (ibwr B2.out hr (Nat.le_refl _))
      have I3 := Lib.hid hi
      clear hi hr
      go_wp2_with fail
      refine (AT.out _ w3 I3.out).mono ?_
      rintro e w4 ⟨rfl, hb⟩
      have B4 := Lib.hid (B3.out.trans (hb.mono B3.out.size))
      clear hb
      go_wp2_with fail
      go_ret
      exact ⟨rfl, B4.out⟩
theorem lt_tiny {x : Nat} (hf : fin x) : (FloatKind.f64.format.order (rg x) 4503599627370496 == some Ordering.lt) = decide (rg x < 2 ^ 52) := by
  have hr := rg_lt x
  have rr : rg (rg x) = rg x := Nat.mod_eq_of_lt hr
  have sr : sg (rg x) = false := by unfold sg; rw [Nat.div_eq_of_lt hr]; rfl
  rw [lt_small (by unfold isNan fin INF at *; omega) sr, rr]
set_option maxRecDepth 100000 in
set_option maxHeartbeats 4000000 in
theorem rclass_any (x : Nat) (hx : x < 2 ^ 64) (w : World) :
    Calls Tryz.prog 24 #[.float .f64 x] w fun e w' => e = .returned (.int .i64 (clsF x)) ∧ w = w' := by
  have NX := rnone_any x
  by_cases nx : isNan x
  · have e : clsF x = 1 := by unfold clsF; rw [if_pos nx]
    rw [decide_eq_true nx] at NX
    rw [e]
    have NX := Lib.hid NX
    clear hx nx e
    go_enter Tryz.func24, Tryz.ntmps24
    go_wp2_with fail
    refine (NX.out _).mono ?_
    rintro e w' ⟨rfl, rfl⟩
    go_wp2_with fail
    go_ret
    exact ⟨rfl, rfl⟩
  · rw [decide_eq_false nx] at NX
    have NX := Lib.hid NX
    have IX := rinf_any x nx
    by_cases hf : fin x
    · rw [decide_eq_false (not_not_intro hf)] at IX
      have IX := Lib.hid IX
      have z := order_zeroB x
      have AB := Lib.hid (abs_any x hx)
      have t := lt_tiny hf
      by_cases h0 : rg x = 0
      · have e : clsF x = 3 := by unfold clsF; rw [if_neg nx, if_neg (by rw [h0]; decide), if_pos h0]
        rw [e]
        have zb : zeroB x = true := by unfold zeroB; exact decide_eq_true h0
        rw [zb] at z
        clear hx nx hf e zb t h0
        go_enter Tryz.func24, Tryz.ntmps24
        go_wp2_with fail
        refine (NX.out _).mono ?_
        rintro e w' ⟨rfl, rfl⟩
        go_wp2_with fail
        refine (IX.out _).mono ?_
        rintro e w' ⟨rfl, rfl⟩
        go_wp2_with fail
        go_ret
        exact ⟨rfl, rfl⟩
      · have zb : zeroB x = false := by unfold zeroB; exact decide_eq_false h0
        rw [zb] at z
        have ni : rg x ≠ INF := by unfold fin at hf; omega
        by_cases h5 : rg x < 2 ^ 52
        · have e : clsF x = 4 := by unfold clsF; rw [if_neg nx, if_neg ni, if_neg h0, if_pos h5]
          rw [e]
          rw [decide_eq_true h5] at t
          generalize rg x = r at *
          clear hx nx hf e zb h0 ni h5
          go_enter Tryz.func24, Tryz.ntmps24
          go_wp2_with fail
          refine (NX.out _).mono ?_
          rintro e w' ⟨rfl, rfl⟩
          go_wp2_with fail
          refine (IX.out _).mono ?_
          rintro e w' ⟨rfl, rfl⟩
          go_wp2_with fail
          refine (AB.out _).mono ?_
          rintro e w' ⟨rfl, rfl⟩
          go_wp2_with fail
          go_ret
          exact ⟨rfl, rfl⟩
        · have e : clsF x = 5 := by unfold clsF; rw [if_neg nx, if_neg ni, if_neg h0, if_neg h5]
          rw [e]
          rw [decide_eq_false h5] at t
          generalize rg x = r at *
          clear hx nx hf e zb h0 ni h5
          go_enter Tryz.func24, Tryz.ntmps24
          go_wp2_with fail
          refine (NX.out _).mono ?_
          rintro e w' ⟨rfl, rfl⟩
          go_wp2_with fail
          refine (IX.out _).mono ?_
          rintro e w' ⟨rfl, rfl⟩
          go_wp2_with fail
          refine (AB.out _).mono ?_
          rintro e w' ⟨rfl, rfl⟩
          go_wp2_with fail
          go_ret
          exact ⟨rfl, rfl⟩
    · rw [decide_eq_true hf] at IX
      have e : clsF x = 2 := by unfold clsF; rw [if_neg nx, if_pos (by unfold fin isNan at *; omega)]
      rw [e]
      have IX := Lib.hid IX
      clear hx nx hf e
      go_enter Tryz.func24, Tryz.ntmps24
      go_wp2_with fail
      refine (NX.out _).mono ?_
      rintro e w' ⟨rfl, rfl⟩
      go_wp2_with fail
      refine (IX.out _).mono ?_
      rintro e w' ⟨rfl, rfl⟩
      go_wp2_with fail
      go_ret
      exact ⟨rfl, rfl⟩
end Go.Proofs.YtokmommlabdcdaaGreatDoor
