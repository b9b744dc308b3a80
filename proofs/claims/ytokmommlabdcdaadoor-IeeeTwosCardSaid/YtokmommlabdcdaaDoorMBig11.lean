/- Contracts of surdbig's put and Set. Contracts of surdbig's Abs, Lsh, SetUint64, SetInt64, NewInt, Sign, one. Contract of surdbig's Add of whole numbers. Contracts of surdbig's Sign, one, SetUint64, SetInt64, NewInt, Uint64. Contracts of surdbig's Cmp and Uint64. Contracts of surdbig's Sub and Not, and of surdref2's none, rank, Order, Min, Max, Same. -/
import Derived.Test.YtokmommlabdcdaaDoorMBig7
import Derived.Test.YtokmommlabdcdaaDoorMBmClone
import Derived.Deep.RegionHeld3
import Derived.Deep.RegionLaw
import Derived.Deep.DrawnRows
import Derived.Test.YtokmommlabdcdaaDoorMDBase
import Derived.Test.YtokmommlabdcdaaDoorMFlRel
set_option linter.unusedVariables false
set_option linter.unusedSimpArgs false
namespace Go.Proofs.YtokmommlabdcdaaDoor
open Wd Fl Go.RowKit
set_option linter.unusedVariables false
set_option linter.unusedSimpArgs false
theorem iput_any (b o : Nat) (neg : Bool) (v : Value) (l : List Nat) (w : World) (hz : ZAt TW w b o 2) (hv : WAt TW w v l) (ok : Ok l) (nm : Nm l) (hl : l.length ≤ 4611686018427387904) :
    Calls Tryd.prog 40 #[.pointer (some ⟨b, o, none⟩), .bool neg, v] w (IntRet TW b o (sgn neg l) w) := by
  obtain ⟨a, cap, rfl⟩ := hv.slice
  obtain ⟨x0, c0⟩ := hz.cell o (by omega)
  obtain ⟨x1, c1⟩ := hz.cell (o + 1) (by omega)
  have f0 := hz.frozen o
  have f1 := hz.frozen (o + 1)
  have fin : IntRet TW b o (sgn neg l) w (.returned (.pointer (some ⟨b, o, none⟩))) ((w.setCell ⟨b, o + 1, none⟩ (.slice a l.length cap)).setCell ⟨b, o, none⟩ (.bool (neg && decide (0 < l.length)))) := by
    have W1 : Wr b o (o + 2) w (w.setCell ⟨b, o + 1, none⟩ (.slice a l.length cap)) := Wr.set _ (by omega) (by omega)
    have W2 := W1.trans (Wr.set (w := w.setCell ⟨b, o + 1, none⟩ (.slice a l.length cap)) (o := o) (.bool (neg && decide (0 < l.length))) (by omega) (by omega))
    refine ⟨rfl, ?_, W2⟩
    have hz2 := hz.wr W2
    obtain ⟨t, cur, ht, hc, hs⟩ := hz
    have hh1 := heap_setCell_same w b (o + 1) cur t (.slice a l.length cap) hc
    have hh2 := heap_setCell_same (w.setCell ⟨b, o + 1, none⟩ (.slice a l.length cap)) b o _ t (.bool (neg && decide (0 < l.length))) hh1
    refine ⟨b, o, neg && decide (0 < l.length), .slice a l.length cap, l, t, rfl, ht, ⟨_, hh2⟩, ?_, ?_, hv.wr W2 ⟨t, cur, ht, hc, hs⟩, ok, nm, ?_, ?_⟩
    · rw [cell_of_row _ _ _ _ _ _ hh2, Array.getElem?_setIfInBounds_self_of_lt (by rw [Array.size_setIfInBounds]; omega)]
    · rw [cell_of_row _ _ _ _ _ _ hh2, Array.getElem?_setIfInBounds_ne (by omega), Array.getElem?_setIfInBounds_self_of_lt (by omega)]
    · intro h; rintro rfl; simp at h
    · unfold sgn
      cases l with
      | nil => simp [val]
      | cons x r => simp
  have FIN := Lib.hid fin
  have p1 : (l.length : Int) ≤ 4611686018427387904 := by omega
  clear hz hv fin ok nm hl
  generalize l.length = n at *
  go_enter Tryd.func40, Tryd.ntmps40
  cases neg
  all_goals
    go_wp2
    have F := FIN.out
    simp only [Bool.true_and, Bool.false_and] at F
    go_ret
    exact F
theorem clone_below {w w1 : World} {T : TypeId} (h : (w.alloc (.cells #[] T)).drew.grownBy w1 (Value.slice (some ⟨w.heap.size, 0, none⟩) 0 0).ownBlock) : Below w.heap.size w w1 :=
  ((Below.refl _ _).alloc (Nat.le_refl _) _).trans ⟨h.os, h.tape, h.output, h.size, fun k hk => h.block k (by simp; omega) (by simp [Value.ownBlock]; omega)⟩
theorem sgn_not (neg : Bool) (l : List Nat) : sgn (!neg) l = -sgn neg l := by unfold sgn; cases neg <;> simp
set_option maxRecDepth 100000 in
set_option maxHeartbeats 2000000 in
theorem ineg_any (bz oz bx ox : Nat) (n : Int) (w : World) (hz : ZAt TW w bz oz 2) (hx : IntAt TW w ⟨bx, ox, none⟩ n) (hn : bl n ≤ 100000) :
    Calls Tryd.prog 43 #[.pointer (some ⟨bz, oz, none⟩), .pointer (some ⟨bx, ox, none⟩)] w (IntRet TW bz oz (-n) w) := by
  obtain ⟨i0, hi0, hz0, hz1, hz2⟩ := info_parts infoW
  obtain ⟨neg, a, cap, l, h1, h2, H3, OK, NM, HN, HE, HK, N1⟩ := IntAt.open hx
  have HZ := Lib.hid hz
  have HL0 := Lib.hid (HK.out _ hn)
  clear hz hx hn
  generalize hL : l.length = len at *
  have HL := Lib.hid hL
  clear hL
  go_enter Tryd.func43, Tryd.ntmps43
  go_wp2_with fail
  have HB : Below w.heap.size w (w.alloc (.cells #[] TW)) := (Below.refl _ _).alloc (Nat.le_refl _) _
  have HW := Lib.hid (H3.out.below HB)
  have HO := Lib.hid (World.ownsRow_lit (base := w.heap.size) (e := TW) (size := 1) w #[] 0 (Nat.le_refl _) (by decide) rfl)
  have HBB := Lib.hid HB
  have q1 : (w.alloc (.cells #[] 61)).cell? ⟨bx, ox, none⟩ = some (.bool neg) := (HB.cell (p := ⟨bx, ox, none⟩) N1).trans h1
  have q2 : (w.alloc (.cells #[] 61)).cell? ⟨bx, ox + 1, none⟩ = some (.slice a len cap) := (HB.cell (p := ⟨bx, ox + 1, none⟩) N1).trans h2
  clear HB
  go_region_law (first | (refine step_clone (by rfl) (.tmp 11) (.tmp 15) 52 (by rfl) TW i0 _ Tryd.underlying52 hi0 hz0 hz1 hz2 rfl w.heap.size (.slice (some ⟨w.heap.size, 0, none⟩) 0 0) (by rfl) HO.out (.slice a len cap) l (by rfl) HW.out (by have := HL0.out; have := HL.out; omega) (by simp) ?_; intro v' w1 hw1 hg1; have hb1 := Lib.hid (clone_below hg1); have hw1' := Lib.hid hw1; have q3 := (hb1.out.cell (p := ⟨bx, ox, none⟩) N1).trans h1; clear hw1 hg1) | (go_simp; go_at_call 40; refine (iput_any _ _ _ _ l _ (HZ.out.below hb1.out) hw1'.out OK.out NM.out (by have := HL0.out; have := HL.out; omega)).mono ?_; rintro e w2 ⟨rfl, hi2, hr2⟩; have HI2 := Lib.hid hi2; have HR2 := Lib.hid ((Wr.of_below _ _ _ hb1.out).trans hr2); clear hi2 hr2))
  all_goals
    go_wp2_with fail
    go_ret
    exact ⟨rfl, by rw [HE.out, ← sgn_not]; exact HI2.out, HR2.out⟩
end Go.Proofs.YtokmommlabdcdaaDoor
namespace Go.Proofs.YtokmommlabdcdaaDoor
open Wd Fl Go.RowKit
set_option linter.unusedVariables false
set_option linter.unusedSimpArgs false
theorem clone_below0 {w w1 : World} {T : TypeId} (h : (w.alloc (.cells #[] T)).grownBy w1 (Value.slice (some ⟨w.heap.size, 0, none⟩) 0 0).ownBlock) : Below w.heap.size w w1 :=
  ((Below.refl _ _).alloc (Nat.le_refl _) _).trans ⟨h.os, h.tape, h.output, h.size, fun k hk => h.block k (by simp; omega) (by simp [Value.ownBlock]; omega)⟩
theorem len_small {l : List Nat} (nm : Nm l) (h : blen (val l) ≤ 1000000) : l.length ≤ 4611686018427387904 := by
  have := len_of_blen nm h; omega
theorem sgn_scale (neg : Bool) (l m : List Nat) (k : Nat) (h : val m = val l * k) : sgn neg m = sgn neg l * k := by
  unfold sgn; rw [h]; cases neg <;> simp [Int.neg_mul]
end Go.Proofs.YtokmommlabdcdaaDoor
namespace Go.Proofs.YtokmommlabdcdaaDoor
open Wd Fl Go.RowKit
set_option linter.unusedVariables false
set_option linter.unusedSimpArgs false
theorem sgn_add (p : Bool) (l m r : List Nat) (h : val r = val l + val m) : sgn p r = sgn p l + sgn p m := by
  unfold sgn; rw [h]; cases p <;> simp <;> omega
theorem sgn_less (p q : Bool) (l m r : List Nat) (hpq : p ≠ q) (hle : val m ≤ val l) (h : val r = val l - val m) : sgn p r = sgn p l + sgn q m := by
  unfold sgn; rw [h]; cases p <;> cases q <;> simp at hpq ⊢ <;> omega
theorem len_of_le {l m : List Nat} (ol : Ok l) (nm : Nm m) (h : val m ≤ val l) : m.length ≤ l.length := by
  rcases Nat.lt_or_ge l.length m.length with c | c
  · have := cmp_len ol nm c; omega
  · exact c
set_option maxRecDepth 100000 in
set_option maxHeartbeats 8000000 in
theorem iadd_any (bz oz bx ox bY oY : Nat) (n m : Int) (w : World) (hz : ZAt TW w bz oz 2) (hx : IntAt TW w ⟨bx, ox, none⟩ n) (hy : IntAt TW w ⟨bY, oY, none⟩ m) (hn : bl n ≤ 100000) (hm : bl m ≤ 100000) :
    Calls Tryd.prog 49 #[.pointer (some ⟨bz, oz, none⟩), .pointer (some ⟨bx, ox, none⟩), .pointer (some ⟨bY, oY, none⟩)] w (IntRet TW bz oz (n + m) w) := by
  obtain ⟨neg, a, cap, l, h1, h2, H3, OK, NM, HN, HE, HK, N1⟩ := IntAt.open hx
  obtain ⟨neg2, a2, cap2, l2, h12, h22, H32, OK2, NM2, HN2, HE2, HK2, N12⟩ := IntAt.open hy
  have HZ := Lib.hid hz
  have hd : Below w.heap.size w w.drew := (Below.refl _ w).drew
  have hl0 := HK.out _ hn
  have hl02 := HK2.out _ hm
  have b1 : blen (val l) ≤ 100000 := by unfold bl at hn; rw [HE.out, sgn_abs] at hn; exact hn
  have b2 : blen (val l2) ≤ 100000 := by unfold bl at hm; rw [HE2.out, sgn_abs] at hm; exact hm
  have HD := Lib.hid hd
  have H3D := Lib.hid (H3.out.below (Below.refl _ w).drew)
  have H3D2 := Lib.hid (H32.out.below (Below.refl _ w).drew)
  have HL0 := Lib.hid hl0
  have HL02 := Lib.hid hl02
  have B1 := Lib.hid b1
  have B2 := Lib.hid b2
  obtain ⟨r, hr⟩ : ∃ r, n + m = r := ⟨_, rfl⟩
  rw [hr]
  have HR := Lib.hid hr
  clear hz hx hn hr hm hy hd hl0 hl02 b1 b2
  by_cases hs : neg = neg2
  · subst hs
    have HM : Hid (blen (val l + val l2) ≤ 1000000) := Lib.hid (by have := blen_add _ _ 100000 B1.out B2.out; omega)
    generalize hL : l.length = len at *
    have HL := Lib.hid hL
    clear hL
    generalize hL : l2.length = len2 at *
    have HL2 := Lib.hid hL
    clear hL
    go_enter Tryd.func49, Tryd.ntmps49
    go_wp2_with fail
    go_quiet (fail)
    go_wp2_with fail
    go_region_law (first | (go_simp; go_at_call 56; refine (sum_any _ _ l l2 (w.drewN (nq + 1)) (H3.out.below (below_drewN (Below.refl _ w) (nq + 1))) (H32.out.below (below_drewN (Below.refl _ w) (nq + 1))) OK.out OK2.out (by have := HL0.out; have := HL.out; omega) (by have := HL02.out; have := HL2.out; omega)).mono ?_; rintro e w1 ⟨v', l', rfl, hw1, ok1, nm1, hv1, hb1⟩; have HW1 := Lib.hid hw1; have OK1 := Lib.hid ok1; have NM1 := Lib.hid nm1; have HV1 := Lib.hid hv1; have HB1 := Lib.hid ((below_drewN (Below.refl w.heap.size w) (nq + 1)).trans hb1); have q1 := (HB1.out.cell (p := ⟨bx, ox, none⟩) N1).trans h1; have q12 := (HB1.out.cell (p := ⟨bY, oY, none⟩) N12).trans h12; clear hw1 ok1 nm1 hv1 hb1) | (go_simp; go_at_call 40; refine (iput_any _ _ _ _ l' _ (HZ.out.below HB1.out) HW1.out OK1.out NM1.out (len_small NM1.out (by rw [HV1.out]; exact HM.out))).mono ?_; rintro e w2 ⟨rfl, hi2, hr2⟩; have HI2 := Lib.hid hi2; have HR2 := Lib.hid ((Wr.of_below _ _ _ HB1.out).trans hr2); clear hi2 hr2))
    all_goals
      go_wp2_with fail
      go_ret
      exact ⟨rfl, by rw [← HR.out, HE.out, HE2.out, ← sgn_add _ _ _ _ HV1.out]; exact HI2.out, HR2.out⟩
  · have hs' : (neg == neg2) = false := by cases neg <;> cases neg2 <;> simp at hs ⊢
    have HS := Lib.hid hs
    clear hs
    by_cases hle : val l2 ≤ val l
    · have hc : ∃ c : Int, cmpI (val l) (val l2) = c ∧ 0 ≤ c := by
        refine ⟨_, rfl, ?_⟩
        unfold cmpI; rw [if_neg (by omega)]; split <;> omega
      obtain ⟨c, hc, hc0⟩ := hc
      have HC := Lib.hid hc
      have HM : Hid (blen (val l - val l2) ≤ 1000000) := Lib.hid (by have := blen_mono (Nat.sub_le (val l) (val l2)); have := B1.out; omega)
      have HLL := Lib.hid (len_of_le OK.out NM2.out hle)
      have HLE := Lib.hid hle
      clear hc hle
      generalize hL : l.length = len at *
      have HL := Lib.hid hL
      clear hL
      generalize hL : l2.length = len2 at *
      have HL2 := Lib.hid hL
      clear hL
      go_enter Tryd.func49, Tryd.ntmps49
      go_wp2_with fail
      go_quiet (fail)
      go_wp2_with fail
      go_region_law (go_simp; go_at_call 38; refine (compare_any _ _ l l2 (w.drewN (nq + 1)) (H3.out.below (below_drewN (Below.refl _ w) (nq + 1))) (H32.out.below (below_drewN (Below.refl _ w) (nq + 1))) OK.out OK2.out NM.out NM2.out (by have := HL0.out; have := HL.out; omega) (by have := HL02.out; have := HL2.out; omega)).mono ?_; rintro e w5 ⟨rfl, hb5⟩; rw [HC.out]; have HB5 := Lib.hid ((below_drewN (Below.refl w.heap.size w) (nq + 1)).trans hb5); clear hb5)
      all_goals
        have g1 := (HB5.out.cell (p := ⟨bx, ox, none⟩) N1).trans h1
        have g2 := (HB5.out.cell (p := ⟨bx, ox + 1, none⟩) N1).trans h2
        have g12 := (HB5.out.cell (p := ⟨bY, oY, none⟩) N12).trans h12
        have g22 := (HB5.out.cell (p := ⟨bY, oY + 1, none⟩) N12).trans h22
        go_wp2_with fail
        go_region_law (first | (go_simp; go_at_call 57; refine (less_any _ _ l l2 (w5.drewN 1) (H3.out.below (below_drewN HB5.out 1)) (H32.out.below (below_drewN HB5.out 1)) OK.out OK2.out (by have := HL0.out; have := HL.out; have := HL02.out; have := HL2.out; omega) (by have := HLL.out; have := HL.out; have := HL2.out; omega) HLE.out).mono ?_; rintro e w1 ⟨v', l', rfl, hw1, ok1, nm1, hv1, hb1⟩; have HW1 := Lib.hid hw1; have OK1 := Lib.hid ok1; have NM1 := Lib.hid nm1; have HV1 := Lib.hid hv1; have HB1 := Lib.hid ((below_drewN HB5.out 1).trans (hb1.mono (by have := HB5.out.size; simp; omega))); have q1 := (HB1.out.cell (p := ⟨bx, ox, none⟩) N1).trans h1; have q12 := (HB1.out.cell (p := ⟨bY, oY, none⟩) N12).trans h12; clear hw1 ok1 nm1 hv1 hb1) | (go_simp; go_at_call 40; refine (iput_any _ _ _ _ l' _ (HZ.out.below HB1.out) HW1.out OK1.out NM1.out (len_small NM1.out (by rw [HV1.out]; exact HM.out))).mono ?_; rintro e w2 ⟨rfl, hi2, hr2⟩; have HI2 := Lib.hid hi2; have HR2 := Lib.hid ((Wr.of_below _ _ _ HB1.out).trans hr2); clear hi2 hr2))
        all_goals
          go_wp2_with fail
          go_ret
          exact ⟨rfl, by rw [← HR.out, HE.out, HE2.out, ← sgn_less _ _ _ _ _ HS.out HLE.out HV1.out]; exact HI2.out, HR2.out⟩
    · have hc : ∃ c : Int, cmpI (val l) (val l2) = c ∧ c < 0 := by
        refine ⟨_, rfl, ?_⟩
        unfold cmpI; rw [if_pos (by omega)]; omega
      obtain ⟨c, hc, hc0⟩ := hc
      have HC := Lib.hid hc
      have HM : Hid (blen (val l2 - val l) ≤ 1000000) := Lib.hid (by have := blen_mono (Nat.sub_le (val l2) (val l)); have := B2.out; omega)
      have hle' : val l ≤ val l2 := by omega
      have HLL := Lib.hid (len_of_le OK2.out NM.out hle')
      have HLE := Lib.hid hle'
      clear hc hle hle'
      generalize hL : l.length = len at *
      have HL := Lib.hid hL
      clear hL
      generalize hL : l2.length = len2 at *
      have HL2 := Lib.hid hL
      clear hL
      go_enter Tryd.func49, Tryd.ntmps49
      go_wp2_with fail
      go_quiet (fail)
      go_wp2_with fail
      go_region_law (go_simp; go_at_call 38; refine (compare_any _ _ l l2 (w.drewN (nq + 1)) (H3.out.below (below_drewN (Below.refl _ w) (nq + 1))) (H32.out.below (below_drewN (Below.refl _ w) (nq + 1))) OK.out OK2.out NM.out NM2.out (by have := HL0.out; have := HL.out; omega) (by have := HL02.out; have := HL2.out; omega)).mono ?_; rintro e w5 ⟨rfl, hb5⟩; rw [HC.out]; have HB5 := Lib.hid ((below_drewN (Below.refl w.heap.size w) (nq + 1)).trans hb5); clear hb5)
      all_goals
        have g1 := (HB5.out.cell (p := ⟨bx, ox, none⟩) N1).trans h1
        have g2 := (HB5.out.cell (p := ⟨bx, ox + 1, none⟩) N1).trans h2
        have g12 := (HB5.out.cell (p := ⟨bY, oY, none⟩) N12).trans h12
        have g22 := (HB5.out.cell (p := ⟨bY, oY + 1, none⟩) N12).trans h22
        go_wp2_with fail
        go_region_law (first | (go_simp; go_at_call 57; refine (less_any _ _ l2 l (w5.drewN 1) (H32.out.below (below_drewN HB5.out 1)) (H3.out.below (below_drewN HB5.out 1)) OK2.out OK.out (by have := HL0.out; have := HL.out; have := HL02.out; have := HL2.out; omega) (by have := HLL.out; have := HL.out; have := HL2.out; omega) HLE.out).mono ?_; rintro e w1 ⟨v', l', rfl, hw1, ok1, nm1, hv1, hb1⟩; have HW1 := Lib.hid hw1; have OK1 := Lib.hid ok1; have NM1 := Lib.hid nm1; have HV1 := Lib.hid hv1; have HB1 := Lib.hid ((below_drewN HB5.out 1).trans (hb1.mono (by have := HB5.out.size; simp; omega))); have q1 := (HB1.out.cell (p := ⟨bx, ox, none⟩) N1).trans h1; have q12 := (HB1.out.cell (p := ⟨bY, oY, none⟩) N12).trans h12; clear hw1 ok1 nm1 hv1 hb1) | (go_simp; go_at_call 40; refine (iput_any _ _ _ _ l' _ (HZ.out.below HB1.out) HW1.out OK1.out NM1.out (len_small NM1.out (by rw [HV1.out]; exact HM.out))).mono ?_; rintro e w2 ⟨rfl, hi2, hr2⟩; have HI2 := Lib.hid hi2; have HR2 := Lib.hid ((Wr.of_below _ _ _ HB1.out).trans hr2); clear hi2 hr2))
        all_goals
          go_wp2_with fail
          go_ret
          exact ⟨rfl, by rw [← HR.out, HE.out, HE2.out, Int.add_comm, ← sgn_less _ _ _ _ _ (Ne.symm HS.out) HLE.out HV1.out]; exact HI2.out, HR2.out⟩
end Go.Proofs.YtokmommlabdcdaaDoor
namespace Go.Proofs.YtokmommlabdcdaaDoor
open Wd Fl Go.RowKit
set_option linter.unusedVariables false
set_option linter.unusedSimpArgs false
def sigI (n : Int) : Int := if n < 0 then -1 else if n = 0 then 0 else 1
theorem sigI_of {neg : Bool} {l : List Nat} (nm : Nm l) : sigI (sgn neg l) = if l = [] then 0 else if neg then -1 else 1 := by
  unfold sigI sgn
  by_cases h : l = []
  · subst h; simp [val]
  · have := nm.pos h
    rw [if_neg h]
    cases neg
    · simp; omega
    · simp; omega
theorem sgn_one {neg : Bool} {l : List Nat} (ok : Ok l) (nm : Nm l) : sgn neg l = 1 ↔ l = [1] ∧ neg = false := by
  unfold sgn
  have h1 : Ok [1] := .cons (by decide) .nil
  have h2 : Nm [1] := by unfold Nm; simp
  cases neg
  · simp only [Bool.false_eq_true, if_false, and_true]
    constructor
    · intro h; exact val_inj ok h1 nm h2 (by rw [val_single]; omega)
    · rintro rfl; rfl
  · simp; omega
theorem lit2 (w : World) (a b : Nat) : WAt TW (w.alloc (.cells #[.int .u32 (a : Int), .int .u32 (b : Int)] TW)) (.slice (some ⟨w.heap.size, 0, none⟩) 2 2) [a, b] :=
  WAt.of_own (base := w.heap.size) (World.ownsRow_lit (size := 1) w _ 2 (Nat.le_refl _) (by decide) rfl)
theorem lit2' (w : World) (x : Nat) : WAt TW (w.alloc (.cells #[.int .u32 ((x : Int) % 4294967296), .int .u32 ((x : Int) / 4294967296)] TW)) (.slice (some ⟨w.heap.size, 0, none⟩) 2 2) [x % 4294967296, x / 4294967296] := by
  have := lit2 w (x % 4294967296) (x / 4294967296)
  rwa [show ((x % 4294967296 : Nat) : Int) = (x : Int) % 4294967296 by omega, show ((x / 4294967296 : Nat) : Int) = (x : Int) / 4294967296 by omega] at this
set_option maxRecDepth 100000 in
set_option maxHeartbeats 2000000 in
theorem setUint64_any (bz oz : Nat) (x : Nat) (w : World) (hz : ZAt TW w bz oz 2) (hx : x < 18446744073709551616) :
    Calls Tryd.prog 35 #[.pointer (some ⟨bz, oz, none⟩), .int .u64 (x : Int)] w (IntRet TW bz oz (x : Int) w) := by
  have hxI : (x : Int) < 18446744073709551616 := by omega
  have HZ := Lib.hid hz
  have HW := Lib.hid (lit2' w x)
  have hv : val [x % 4294967296, x / 4294967296] = x := by simp [val]; omega
  have ok : Ok [x % 4294967296, x / 4294967296] := .cons (by omega) (.cons (by omega) .nil)
  have HV := Lib.hid hv
  have OK := Lib.hid ok
  have HB0 := Lib.hid ((Below.refl w.heap.size w).alloc (Nat.le_refl _) (.cells #[.int .u32 ((x : Int) % 4294967296), .int .u32 ((x : Int) / 4294967296)] TW))
  clear hz hv ok
  go_enter Tryd.func35, Tryd.ntmps35
  go_wp2_with (first | (go_at_call 41; refine (trimmed_any _ [x % 4294967296, x / 4294967296] _ HW.out OK.out (by simp)).mono ?_; rintro e w1 ⟨v', l', rfl, hw1, ok1, nm1, hv1, hb1⟩; rw [HV.out] at hv1; have HW1 := Lib.hid hw1; have OK1 := Lib.hid ok1; have NM1 := Lib.hid nm1; have HV1 := Lib.hid hv1; have HB1 := Lib.hid (HB0.out.trans (hb1.mono (by simp))); clear hw1 ok1 nm1 hv1 hb1) | (go_at_call 40; refine (iput_any _ _ _ _ l' _ (HZ.out.below HB1.out) HW1.out OK1.out NM1.out (len_small NM1.out (by rw [HV1.out]; exact Nat.le_trans (blen_of_lt (k := 64) hx) (by omega)))).mono ?_; rintro e w2 ⟨rfl, hi2, hr2⟩; have HI2 := Lib.hid hi2; have HR2 := Lib.hid ((Wr.of_below _ _ _ HB1.out).trans hr2); clear hi2 hr2))
  go_ret
  refine ⟨rfl, ?_, HR2.out⟩
  have := HI2.out
  unfold sgn at this
  rw [HV1.out] at this
  exact this
set_option maxRecDepth 100000 in
set_option maxHeartbeats 2000000 in
theorem setInt64_any (bz oz : Nat) (x : Int) (w : World) (hz : ZAt TW w bz oz 2) (h1 : -9223372036854775808 ≤ x) (h2 : x < 9223372036854775808) :
    Calls Tryd.prog 50 #[.pointer (some ⟨bz, oz, none⟩), .int .i64 x] w (IntRet TW bz oz x w) := by
  have HZ := Lib.hid hz
  clear hz
  by_cases h0 : 0 ≤ x
  · obtain ⟨m, rfl⟩ : ∃ m : Nat, x = m := ⟨x.toNat, by omega⟩
    have hm : m < 18446744073709551616 := by omega
    go_enter Tryd.func50, Tryd.ntmps50
    go_wp2_with (go_at_call 35; refine (setUint64_any _ _ m _ HZ.out hm).mono ?_; rintro e w2 ⟨rfl, hi2, hr2⟩; have HI2 := Lib.hid hi2; have HR2 := Lib.hid hr2; clear hi2 hr2)
    go_ret
    exact ⟨rfl, HI2.out, HR2.out⟩
  · have h3 : x < 0 := by omega
    clear h0
    have hm : (-x).toNat < 18446744073709551616 := by omega
    have hme : (((-x).toNat : Nat) : Int) = -x := by omega
    have HM := Lib.hid hm
    have HME := Lib.hid hme
    clear hm hme
    go_enter Tryd.func50, Tryd.ntmps50
    go_wp2_with (go_at_call 35; rw [show -(x + 1) + 1 = (((-x).toNat : Nat) : Int) from by have := HME.out; omega]; refine (setUint64_any _ _ (-x).toNat _ HZ.out HM.out).mono ?_; rintro e w2 ⟨rfl, hi2, hr2⟩; have z2 := hi2.z; obtain ⟨u2, c2⟩ := z2.cell oz (by omega); have f2 := z2.frozen oz; rw [HME.out] at hi2; have HI2 := Lib.hid (hi2.turn (by omega)); have HR2 := Lib.hid (hr2.trans (Wr.set (o := oz) (.bool true) (Nat.le_refl _) (by omega))); clear hi2 hr2 z2)
    go_ret
    exact ⟨rfl, by have := HI2.out; rwa [Int.neg_neg] at this, HR2.out⟩
def IntNew (n : Int) (w : World) (e : Ending) (w' : World) : Prop := NewRet TW n w e w'
set_option maxRecDepth 100000 in
set_option maxHeartbeats 2000000 in
theorem newInt_any (x : Int) (w : World) (h1 : -9223372036854775808 ≤ x) (h2 : x < 9223372036854775808) :
    Calls Tryd.prog 44 #[.int .i64 x] w (NewRet TW x w) := by
  have HZ := Lib.hid (ZAt.new TW w #[.bool false, .slice none 0 0] 54 (by decide) 2 (by decide))
  have HB := Lib.hid ((Below.refl w.heap.size w).alloc (Nat.le_refl _) (.cells #[.bool false, .slice none 0 0] 54))
  have H1 := Lib.hid h1
  have H2 := Lib.hid h2
  clear h1 h2
  go_enter Tryd.func44, Tryd.ntmps44
  go_wp2_with (go_at_call 50; refine (setInt64_any _ _ x _ HZ.out H1.out H2.out).mono ?_; rintro e w2 ⟨rfl, hi2, hr2⟩; have HI2 := Lib.hid hi2; have HR2 := Lib.hid (HB.out.trans (hr2.below (Nat.le_refl _) (by simp))); clear hi2 hr2)
  go_ret
  exact ⟨_, rfl, Nat.le_refl _, HI2.out, HR2.out⟩
end Go.Proofs.YtokmommlabdcdaaDoor
namespace Go.Proofs.YtokmommlabdcdaaDoor
open Wd Fl Go.RowKit
set_option linter.unusedVariables false
set_option linter.unusedSimpArgs false
def cmpZ (n m : Int) : Int := if n < m then -1 else if m < n then 1 else 0
theorem cmpZ_pos (l m : List Nat) : cmpZ (sgn false l) (sgn false m) = cmpI (val l) (val m) := by
  unfold cmpZ cmpI sgn; simp only [Bool.false_eq_true, if_false]; (repeat' split) <;> omega
theorem cmpZ_neg (l m : List Nat) : cmpZ (sgn true l) (sgn true m) = cmpI (val m) (val l) := by
  unfold cmpZ cmpI sgn; simp only [if_true]; (repeat' split) <;> omega
theorem cmpZ_np {l m : List Nat} (nm : Nm l) (h : l ≠ []) : cmpZ (sgn true l) (sgn false m) = -1 := by
  have := nm.pos h
  unfold cmpZ sgn; simp only [if_true, Bool.false_eq_true, if_false]; rw [if_pos (by omega)]
theorem cmpZ_pn {l m : List Nat} (nm : Nm m) (h : m ≠ []) : cmpZ (sgn false l) (sgn true m) = 1 := by
  have := nm.pos h
  unfold cmpZ sgn; simp only [if_true, Bool.false_eq_true, if_false]; rw [if_neg (by omega), if_pos (by omega)]
set_option maxRecDepth 100000 in
set_option maxHeartbeats 4000000 in
theorem cmp_any (bx ox bY oY : Nat) (n m : Int) (w : World) (hx : IntAt TW w ⟨bx, ox, none⟩ n) (hy : IntAt TW w ⟨bY, oY, none⟩ m) (hn : bl n ≤ 100000) (hm : bl m ≤ 100000) :
    Calls Tryd.prog 28 #[.pointer (some ⟨bx, ox, none⟩), .pointer (some ⟨bY, oY, none⟩)] w fun e w' => e = .returned (.int .i64 (cmpZ n m)) ∧ Below w.heap.size w w' := by
  obtain ⟨neg, a, cap, l, h1, h2, H3, OK, NM, HN, HE, HK, N1⟩ := IntAt.open hx
  obtain ⟨neg2, a2, cap2, l2, h12, h22, H32, OK2, NM2, HN2, HE2, HK2, N12⟩ := IntAt.open hy
  have HL0 := Lib.hid (HK.out _ hn)
  have HL02 := Lib.hid (HK2.out _ hm)
  have hE := HE.out
  have hE2 := HE2.out
  have HLI : Hid (l.length ≤ 4611686018427387904) := Lib.hid (by have := HL0.out; omega)
  have HLI2 : Hid (l2.length ≤ 4611686018427387904) := Lib.hid (by have := HL02.out; omega)
  clear hx hy hn hm
  obtain ⟨c, hc⟩ : ∃ c, cmpZ n m = c := ⟨_, rfl⟩
  rw [hc]
  rw [hE, hE2] at hc
  cases neg <;> cases neg2
  · rw [cmpZ_pos] at hc
    have HC := Lib.hid hc
    clear hE hE2 hc
    go_enter Tryd.func28, Tryd.ntmps28
    go_wp2_with fail
    go_quiet (fail)
    go_wp2_with fail
    go_region_law (go_simp; go_at_call 38; refine (compare_any _ _ l l2 (w.drewN (nq + 1)) (H3.out.below (below_drewN (Below.refl _ w) (nq + 1))) (H32.out.below (below_drewN (Below.refl _ w) (nq + 1))) OK.out OK2.out NM.out NM2.out HLI.out HLI2.out).mono ?_; rintro e w5 ⟨rfl, hb5⟩; rw [HC.out]; have HB5 := Lib.hid ((below_drewN (Below.refl w.heap.size w) (nq + 1)).trans hb5); clear hb5)
    all_goals
      go_wp2_with fail
      go_ret
      exact ⟨rfl, HB5.out⟩
  · rw [cmpZ_pn NM2.out (HN2.out rfl)] at hc
    rw [← hc]
    clear hE hE2 hc
    go_enter Tryd.func28, Tryd.ntmps28
    go_wp2_with fail
    go_quiet (fail)
    go_wp2_with fail
    go_ret
    exact ⟨rfl, below_drewN (Below.refl _ w) _⟩
  · rw [cmpZ_np NM.out (HN.out rfl)] at hc
    rw [← hc]
    clear hE hE2 hc
    go_enter Tryd.func28, Tryd.ntmps28
    go_wp2_with fail
    go_quiet (fail)
    go_wp2_with fail
    go_ret
    exact ⟨rfl, below_drewN (Below.refl _ w) _⟩
  · rw [cmpZ_neg] at hc
    have HC := Lib.hid hc
    clear hE hE2 hc
    go_enter Tryd.func28, Tryd.ntmps28
    go_wp2_with fail
    go_quiet (fail)
    go_wp2_with fail
    go_region_law (go_simp; go_at_call 38; refine (compare_any _ _ l2 l (w.drewN (nq + 1)) (H32.out.below (below_drewN (Below.refl _ w) (nq + 1))) (H3.out.below (below_drewN (Below.refl _ w) (nq + 1))) OK2.out OK.out NM2.out NM.out HLI2.out HLI.out).mono ?_; rintro e w5 ⟨rfl, hb5⟩; rw [HC.out]; have HB5 := Lib.hid ((below_drewN (Below.refl w.heap.size w) (nq + 1)).trans hb5); clear hb5)
    all_goals
      go_wp2_with fail
      go_ret
      exact ⟨rfl, HB5.out⟩
end Go.Proofs.YtokmommlabdcdaaDoor
set_option linter.unusedVariables false
set_option linter.unusedSimpArgs false
namespace Go.Proofs.YtokmommlabdcdaaDoor
open Wd Fl Go.RowKit
theorem ibwr {w W W' : World} {b lo hi : Nat} (h : Below w.heap.size w W) (g : Wr b lo hi W W') (hb : w.heap.size ≤ b) : Below w.heap.size w W' := h.trans (g.below hb h.size)
theorem ibal {w W : World} {c : Obj} (h : Below w.heap.size w W) : Below w.heap.size w (W.alloc c) := h.trans (((Below.refl _ _).alloc (Nat.le_refl _) c).mono h.size)
theorem iznew (w : World) : ZAt TW (w.alloc (.cells #[.bool false, .slice none 0 0] 54)) w.heap.size 0 2 := ZAt.new TW w _ _ (by decide) 2 (by decide)
theorem ibnew (w : World) (c : Obj) : Below w.heap.size w (w.alloc c) := (Below.refl _ _).alloc (Nat.le_refl _) _
theorem inewW {w w1 : World} {c : Obj} {n : Nat} (h : Wr w.heap.size 0 n (w.alloc c) w1) : Below w.heap.size w w1 := (ibnew w c).trans (h.below (Nat.le_refl _) (by simp))
set_option maxRecDepth 100000 in
set_option maxHeartbeats 4000000 in
theorem isub_any (bz oz bx ox bY oY : Nat) (n m : Int) (w : World) (hz : ZAt TW w bz oz 2) (hx : IntAt TW w ⟨bx, ox, none⟩ n) (hy : IntAt TW w ⟨bY, oY, none⟩ m) (hn : bl n ≤ 100000) (hm : bl m ≤ 100000) :
    Calls Tryd.prog 42 #[.pointer (some ⟨bz, oz, none⟩), .pointer (some ⟨bx, ox, none⟩), .pointer (some ⟨bY, oY, none⟩)] w (IntRet TW bz oz (n - m) w) := by
  have HZ := Lib.hid hz
  have HX := Lib.hid hx
  have HY := Lib.hid hy
  have HN := Lib.hid hn
  have HM := Lib.hid hm
  clear hz hx hy hn hm
  go_enter Tryd.func42, Tryd.ntmps42
  go_wp2_with fail
  refine (ineg_any w.heap.size 0 bY oY m _ (iznew w) (HY.out.below (ibnew w _)) HM.out).mono ?_
  rintro e w1 ⟨rfl, hi, hr⟩
  have B1 := Lib.hid (inewW hr)
  have I1 := Lib.hid hi
  clear hi hr
  go_wp2_with fail
  refine (iadd_any bz oz bx ox w.heap.size 0 n (-m) w1 (HZ.out.below B1.out) (HX.out.below B1.out) I1.out HN.out (by rw [bl_neg]; exact HM.out)).mono ?_
  rintro e w2 ⟨rfl, hi, hr⟩
  have I2 := Lib.hid hi
  have R2 := Lib.hid ((Wr.of_below bz oz (oz + 2) B1.out).trans hr)
  clear hi hr
  go_wp2_with fail
  go_ret
  exact ⟨rfl, by rw [Int.sub_eq_add_neg]; exact I2.out, R2.out⟩
set_option maxRecDepth 100000 in
set_option maxHeartbeats 4000000 in
theorem inot_any (bz oz bx ox : Nat) (n : Int) (w : World) (hz : ZAt TW w bz oz 2) (hx : IntAt TW w ⟨bx, ox, none⟩ n) (hn : bl n ≤ 100000) :
    Calls Tryd.prog 37 #[.pointer (some ⟨bz, oz, none⟩), .pointer (some ⟨bx, ox, none⟩)] w (IntRet TW bz oz (-n - 1) w) := by
  have HZ := Lib.hid hz
  have HX := Lib.hid hx
  have HN := Lib.hid hn
  clear hz hx hn
  go_enter Tryd.func37, Tryd.ntmps37
  go_wp2_with fail
  refine (ineg_any w.heap.size 0 bx ox n _ (iznew w) (HX.out.below (ibnew w _)) HN.out).mono ?_
  rintro e w1 ⟨rfl, hi, hr⟩
  have B1 := Lib.hid (inewW hr)
  have I1 := Lib.hid hi
  clear hi hr
  go_wp2_with fail
  refine (newInt_any 1 w1 (by decide) (by decide)).mono ?_
  rintro e w2 ⟨b2, rfl, hle, hi, hb⟩
  have B2 := Lib.hid (B1.out.trans (hb.mono B1.out.size))
  have I2 := Lib.hid (I1.out.below hb)
  have O2 := Lib.hid hi
  clear hle hi hb
  go_wp2_with fail
  refine (isub_any bz oz w.heap.size 0 b2 0 (-n) 1 w2 (HZ.out.below B2.out) I2.out O2.out (by rw [bl_neg]; exact HN.out) (by decide)).mono ?_
  rintro e w3 ⟨rfl, hi, hr⟩
  have I3 := Lib.hid hi
  have R3 := Lib.hid ((Wr.of_below bz oz (oz + 2) B2.out).trans hr)
  clear hi hr
  go_wp2_with fail
  go_ret
  exact ⟨rfl, I3.out, R3.out⟩
theorem rsignbit_any (x : Nat) (hx : x < 2 ^ 64) (w : World) :
    Calls Tryd.prog 25 #[.float .f64 x] w fun e w' => e = .returned (.bool (sg x)) ∧ w = w' := by
  have h2 := f64bits_run
  have e : decide (RowKit.wrap64 (x : Int) < 0) = sg x := by
    have hr := rg_lt x
    cases hs : sg x
    · rw [place_pos x hx hs, pl_false hs]; exact decide_eq_false (by omega)
    · have := sg_true hx hs
      unfold RowKit.wrap64
      exact decide_eq_true (by omega)
  have E := Lib.hid e; clear e hx
  go_enter Tryd.func25, Tryd.ntmps25
  go_wp2
  go_ret
  exact ⟨ret_bool E.out, rfl⟩
theorem rmnan_any (w : World) :
    Calls Tryd.prog 30 #[] w fun e w' => e = .returned (.float .f64 9221120237041090561) ∧ w = w' := by
  have h4 := frombits_run
  go_enter Tryd.func30, Tryd.ntmps30
  go_wp2
  go_ret
  exact ⟨rfl, rfl⟩
theorem rnone_any (x : Nat) (w : World) :
    Calls Tryd.prog 24 #[.float .f64 x] w fun e w' => e = .returned (.bool (decide (isNan x))) ∧ w = w' := by
  have e : (FloatKind.f64.format.order x x == some Ordering.eq) = decide (¬ isNan x) := beq_dec (order_self x)
  have E := Lib.hid e; clear e
  go_enter Tryd.func24, Tryd.ntmps24
  go_wp2
  go_ret
  exact ⟨ret_bool (by unfold bne; rw [E.out]; by_cases h : isNan x <;> simp [h]), rfl⟩
set_option maxRecDepth 100000 in
set_option maxHeartbeats 4000000 in
theorem rank_any (x : Nat) (hx : x < 2 ^ 64) (w : World) :
    Calls Tryd.prog 27 #[.float .f64 x] w (NewRet TW (pl x) w) := by
  have h3 := f64bits_run
  have HX := Lib.hid hx
  have HR := Lib.hid (rg_lt x)
  have GX := Lib.hid (rsignbit_any x hx)
  have hbl : bl ((rg x : Nat) : Int) ≤ 64 := by unfold bl; rw [Int.natAbs_natCast]; exact blen_of_lt (Nat.lt_trans (rg_lt x) (by decide))
  have HB := Lib.hid hbl
  cases hs : sg x
  · have HP := Lib.hid (pl_false hs)
    rw [hs] at GX
    clear hx hs hbl
    go_enter Tryd.func27, Tryd.ntmps27
    go_wp2_with fail
    refine (abs_any x HX.out _).mono ?_
    rintro e w' ⟨rfl, rfl⟩
    go_wp2_with fail
    refine (setUint64_any w.heap.size 0 (rg x) _ (iznew w) (Nat.lt_trans HR.out (by decide))).mono ?_
    rintro e w1 ⟨rfl, hi, hr⟩
    have B1 := Lib.hid (inewW hr)
    have I1 := Lib.hid hi
    clear hi hr
    go_wp2_with fail
    refine (GX.out _).mono ?_
    rintro e w' ⟨rfl, rfl⟩
    go_wp2_with fail
    go_ret
    exact ⟨_, rfl, Nat.le_refl _, by rw [HP.out]; exact I1.out, B1.out⟩
  · have HP := Lib.hid (pl_true hs)
    rw [hs] at GX
    clear hx hs hbl
    go_enter Tryd.func27, Tryd.ntmps27
    go_wp2_with fail
    refine (abs_any x HX.out _).mono ?_
    rintro e w' ⟨rfl, rfl⟩
    go_wp2_with fail
    refine (setUint64_any w.heap.size 0 (rg x) _ (iznew w) (Nat.lt_trans HR.out (by decide))).mono ?_
    rintro e w1 ⟨rfl, hi, hr⟩
    have B1 := Lib.hid (inewW hr)
    have I1 := Lib.hid hi
    clear hi hr
    go_wp2_with fail
    refine (GX.out _).mono ?_
    rintro e w' ⟨rfl, rfl⟩
    go_wp2_with fail
    refine (inot_any w.heap.size 0 w.heap.size 0 (rg x : Int) w1 I1.out.z I1.out (Nat.le_trans HB.out (by decide))).mono ?_
    rintro e w2 ⟨rfl, hi, hr⟩
    have B2 := Lib.hid (ibwr B1.out hr (Nat.le_refl _))
    have I2 := Lib.hid hi
    clear hi hr
    go_wp2_with fail
    go_ret
    refine ⟨_, rfl, Nat.le_refl _, ?_, B2.out⟩
    rw [HP.out, show -1 - (rg x : Int) = -(rg x : Int) - 1 by omega]
    exact I2.out
/-- a whole number is answered, and new memory -/
def INew (n : Int) (w : World) (e : Ending) (w' : World) : Prop := e = .returned (.int .i64 n) ∧ Below w.heap.size w w'
theorem cmpZ_ord {x y : Nat} (nx : ¬ isNan x) (ny : ¬ isNan y) : cmpZ (pl x) (pl y) = ordI x y := by unfold cmpZ ordI; rw [plT_num nx, plT_num ny]
theorem bl_pl (x : Nat) : bl (pl x) ≤ 64 := by
  have h := pl_bounds x
  unfold bl
  exact blen_of_lt (by omega)
set_option maxRecDepth 100000 in
set_option maxHeartbeats 4000000 in
theorem rorder_any (x y : Nat) (hx : x < 2 ^ 64) (hy : y < 2 ^ 64) (w : World) :
    Calls Tryd.prog 9 #[.float .f64 x, .float .f64 y] w (INew (ordI x y) w) := by
  have NX := rnone_any x
  have NY := rnone_any y
  by_cases nx : isNan x
  · rw [decide_eq_true nx] at NX
    by_cases ny : isNan y
    · rw [decide_eq_true ny] at NY
      rw [ordI_eq (x := x) (y := y) (by rw [plT_nan nx, plT_nan ny])]
      have NX := Lib.hid NX
      have NY := Lib.hid NY
      clear hx hy nx ny
      go_enter Tryd.func9, Tryd.ntmps9
      go_wp2_with (go_at_call 24; first | (refine (NX.out _).mono ?_; rintro e w' ⟨rfl, rfl⟩) | (refine (NY.out _).mono ?_; rintro e w' ⟨rfl, rfl⟩))
      go_ret
      exact ⟨rfl, Below.refl _ _⟩
    · rw [decide_eq_false ny] at NY
      rw [ordI_gt (x := x) (y := y) (by rw [plT_nan nx, plT_num ny]; have := pl_num ny; omega)]
      have NX := Lib.hid NX
      have NY := Lib.hid NY
      clear hx hy nx ny
      go_enter Tryd.func9, Tryd.ntmps9
      go_wp2_with (go_at_call 24; first | (refine (NX.out _).mono ?_; rintro e w' ⟨rfl, rfl⟩) | (refine (NY.out _).mono ?_; rintro e w' ⟨rfl, rfl⟩))
      go_ret
      exact ⟨rfl, Below.refl _ _⟩
  · rw [decide_eq_false nx] at NX
    by_cases ny : isNan y
    · rw [decide_eq_true ny] at NY
      rw [ordI_lt (x := x) (y := y) (by rw [plT_nan ny, plT_num nx]; have := pl_num nx; omega)]
      have NX := Lib.hid NX
      have NY := Lib.hid NY
      clear hx hy nx ny
      go_enter Tryd.func9, Tryd.ntmps9
      go_wp2_with (go_at_call 24; first | (refine (NX.out _).mono ?_; rintro e w' ⟨rfl, rfl⟩) | (refine (NY.out _).mono ?_; rintro e w' ⟨rfl, rfl⟩))
      go_ret
      exact ⟨rfl, Below.refl _ _⟩
    · rw [decide_eq_false ny] at NY
      have HC := Lib.hid (cmpZ_ord nx ny)
      have NX := Lib.hid NX
      have NY := Lib.hid NY
      have HX := Lib.hid hx
      have HY := Lib.hid hy
      clear hx hy nx ny
      go_enter Tryd.func9, Tryd.ntmps9
      go_wp2_with fail
      refine (NX.out _).mono ?_
      rintro e w' ⟨rfl, rfl⟩
      go_wp2_with fail
      refine (NX.out _).mono ?_
      rintro e w' ⟨rfl, rfl⟩
      go_wp2_with fail
      refine (NY.out _).mono ?_
      rintro e w' ⟨rfl, rfl⟩
      go_wp2_with fail
      refine (rank_any x HX.out w).mono ?_
      rintro e w1 ⟨b1, rfl, hle, hi, hb⟩
      have B1 := Lib.hid hb
      have I1 := Lib.hid hi
      clear hle hi hb
      go_wp2_with fail
      refine (rank_any y HY.out w1).mono ?_
      rintro e w2 ⟨b2, rfl, hle, hi, hb⟩
      have B2 := Lib.hid (B1.out.trans (hb.mono B1.out.size))
      have I2 := Lib.hid (I1.out.below hb)
      have J2 := Lib.hid hi
      clear hle hi hb
      go_wp2_with fail
      refine (cmp_any b1 0 b2 0 (pl x) (pl y) w2 I2.out J2.out (Nat.le_trans (bl_pl x) (by decide)) (Nat.le_trans (bl_pl y) (by decide))).mono ?_
      rintro e w3 ⟨rfl, hb⟩
      have B3 := Lib.hid (B2.out.trans (hb.mono B2.out.size))
      clear hb
      rw [HC.out]
      go_wp2_with fail
      go_ret
      exact ⟨rfl, B3.out⟩
/-- one of two floats that SameF takes for the given one -/
def FSame (f : Nat) (w : World) (e : Ending) (w' : World) : Prop := ∃ g, e = .returned (.float .f64 g) ∧ sameB f g = true ∧ Below w.heap.size w w'
-- Min, Max, Same (printed by wip/gen45.py)
theorem nan_same {f : Nat} (h : isNan f) : sameB f 9221120237041090561 = true := sameB_true (.inr ⟨h, by decide⟩)
theorem nanq_nan : isNan NANQ := by decide
set_option maxRecDepth 100000 in
set_option maxHeartbeats 4000000 in
theorem rmin_any (x y : Nat) (hx : x < 2 ^ 64) (hy : y < 2 ^ 64) (w : World) :
    Calls Tryd.prog 12 #[.float .f64 x, .float .f64 y] w (FSame (fmin x y) w) := by
  have NX := rnone_any x
  have NY := rnone_any y
  by_cases nx : isNan x
  · rw [decide_eq_true nx] at NX
    rw [fmin_nan (.inl nx)]
    have NX := Lib.hid NX
    clear hx hy nx NY
    go_enter Tryd.func12, Tryd.ntmps12
    go_wp2_with (first | (go_at_call 24; refine (NX.out _).mono ?_; rintro e w' ⟨rfl, rfl⟩) | (go_at_call 30; refine (rmnan_any _).mono ?_; rintro e w' ⟨rfl, rfl⟩))
    go_ret
    exact ⟨_, rfl, nan_same nanq_nan, Below.refl _ _⟩
  · rw [decide_eq_false nx] at NX
    by_cases ny : isNan y
    · rw [decide_eq_true ny] at NY
      rw [fmin_nan (.inr ny)]
      have NX := Lib.hid NX
      have NY := Lib.hid NY
      clear hx hy nx ny
      go_enter Tryd.func12, Tryd.ntmps12
      go_wp2_with (first | (go_at_call 24; first | (refine (NX.out _).mono ?_; rintro e w' ⟨rfl, rfl⟩) | (refine (NY.out _).mono ?_; rintro e w' ⟨rfl, rfl⟩)) | (go_at_call 30; refine (rmnan_any _).mono ?_; rintro e w' ⟨rfl, rfl⟩))
      go_ret
      exact ⟨_, rfl, nan_same nanq_nan, Below.refl _ _⟩
    · rw [decide_eq_false ny] at NY
      have OR := Lib.hid (rorder_any x y hx hy w)
      have NX := Lib.hid NX
      have NY := Lib.hid NY
      rcases Int.lt_trichotomy (plT x) (plT y) with h | h | h
      · rw [ordI_lt h] at OR
        rw [fmin_l hx hy nx ny (by rw [plT_num nx, plT_num ny] at h; omega)]
        clear hx hy nx ny h
        go_enter Tryd.func12, Tryd.ntmps12
        go_wp2_with fail
        refine (NX.out _).mono ?_
        rintro e w' ⟨rfl, rfl⟩
        go_wp2_with fail
        refine (NY.out _).mono ?_
        rintro e w' ⟨rfl, rfl⟩
        go_wp2_with fail
        refine OR.out.mono ?_
        rintro e w1 ⟨rfl, hb⟩
        have B1 := Lib.hid hb
        clear hb
        go_wp2_with fail
        go_ret
        exact ⟨_, rfl, sameB_true (.refl _), B1.out⟩
      · rw [ordI_eq h] at OR
        rw [fmin_l hx hy nx ny (by rw [plT_num nx, plT_num ny] at h; omega)]
        clear hx hy nx ny h
        go_enter Tryd.func12, Tryd.ntmps12
        go_wp2_with fail
        refine (NX.out _).mono ?_
        rintro e w' ⟨rfl, rfl⟩
        go_wp2_with fail
        refine (NY.out _).mono ?_
        rintro e w' ⟨rfl, rfl⟩
        go_wp2_with fail
        refine OR.out.mono ?_
        rintro e w1 ⟨rfl, hb⟩
        have B1 := Lib.hid hb
        clear hb
        go_wp2_with fail
        go_ret
        exact ⟨_, rfl, sameB_true (.refl _), B1.out⟩
      · rw [ordI_gt h] at OR
        rw [fmin_r nx ny (by rw [plT_num nx, plT_num ny] at h; omega)]
        clear hx hy nx ny h
        go_enter Tryd.func12, Tryd.ntmps12
        go_wp2_with fail
        refine (NX.out _).mono ?_
        rintro e w' ⟨rfl, rfl⟩
        go_wp2_with fail
        refine (NY.out _).mono ?_
        rintro e w' ⟨rfl, rfl⟩
        go_wp2_with fail
        refine OR.out.mono ?_
        rintro e w1 ⟨rfl, hb⟩
        have B1 := Lib.hid hb
        clear hb
        go_wp2_with fail
        go_ret
        exact ⟨_, rfl, sameB_true (.refl _), B1.out⟩
set_option maxRecDepth 100000 in
set_option maxHeartbeats 4000000 in
theorem rmax_any (x y : Nat) (hx : x < 2 ^ 64) (hy : y < 2 ^ 64) (w : World) :
    Calls Tryd.prog 14 #[.float .f64 x, .float .f64 y] w (FSame (fmax x y) w) := by
  have NX := rnone_any x
  have NY := rnone_any y
  by_cases nx : isNan x
  · rw [decide_eq_true nx] at NX
    rw [fmax_nan (.inl nx)]
    have NX := Lib.hid NX
    clear hx hy nx NY
    go_enter Tryd.func14, Tryd.ntmps14
    go_wp2_with (first | (go_at_call 24; refine (NX.out _).mono ?_; rintro e w' ⟨rfl, rfl⟩) | (go_at_call 30; refine (rmnan_any _).mono ?_; rintro e w' ⟨rfl, rfl⟩))
    go_ret
    exact ⟨_, rfl, nan_same nanq_nan, Below.refl _ _⟩
  · rw [decide_eq_false nx] at NX
    by_cases ny : isNan y
    · rw [decide_eq_true ny] at NY
      rw [fmax_nan (.inr ny)]
      have NX := Lib.hid NX
      have NY := Lib.hid NY
      clear hx hy nx ny
      go_enter Tryd.func14, Tryd.ntmps14
      go_wp2_with (first | (go_at_call 24; first | (refine (NX.out _).mono ?_; rintro e w' ⟨rfl, rfl⟩) | (refine (NY.out _).mono ?_; rintro e w' ⟨rfl, rfl⟩)) | (go_at_call 30; refine (rmnan_any _).mono ?_; rintro e w' ⟨rfl, rfl⟩))
      go_ret
      exact ⟨_, rfl, nan_same nanq_nan, Below.refl _ _⟩
    · rw [decide_eq_false ny] at NY
      have OR := Lib.hid (rorder_any x y hx hy w)
      have NX := Lib.hid NX
      have NY := Lib.hid NY
      rcases Int.lt_trichotomy (plT x) (plT y) with h | h | h
      · rw [ordI_lt h] at OR
        rw [fmax_r nx ny (by rw [plT_num nx, plT_num ny] at h; omega)]
        clear hx hy nx ny h
        go_enter Tryd.func14, Tryd.ntmps14
        go_wp2_with fail
        refine (NX.out _).mono ?_
        rintro e w' ⟨rfl, rfl⟩
        go_wp2_with fail
        refine (NY.out _).mono ?_
        rintro e w' ⟨rfl, rfl⟩
        go_wp2_with fail
        refine OR.out.mono ?_
        rintro e w1 ⟨rfl, hb⟩
        have B1 := Lib.hid hb
        clear hb
        go_wp2_with fail
        go_ret
        exact ⟨_, rfl, sameB_true (.refl _), B1.out⟩
      · rw [ordI_eq h] at OR
        rw [fmax_l hx hy nx ny (by rw [plT_num nx, plT_num ny] at h; omega)]
        clear hx hy nx ny h
        go_enter Tryd.func14, Tryd.ntmps14
        go_wp2_with fail
        refine (NX.out _).mono ?_
        rintro e w' ⟨rfl, rfl⟩
        go_wp2_with fail
        refine (NY.out _).mono ?_
        rintro e w' ⟨rfl, rfl⟩
        go_wp2_with fail
        refine OR.out.mono ?_
        rintro e w1 ⟨rfl, hb⟩
        have B1 := Lib.hid hb
        clear hb
        go_wp2_with fail
        go_ret
        exact ⟨_, rfl, sameB_true (.refl _), B1.out⟩
      · rw [ordI_gt h] at OR
        rw [fmax_l hx hy nx ny (by rw [plT_num nx, plT_num ny] at h; omega)]
        clear hx hy nx ny h
        go_enter Tryd.func14, Tryd.ntmps14
        go_wp2_with fail
        refine (NX.out _).mono ?_
        rintro e w' ⟨rfl, rfl⟩
        go_wp2_with fail
        refine (NY.out _).mono ?_
        rintro e w' ⟨rfl, rfl⟩
        go_wp2_with fail
        refine OR.out.mono ?_
        rintro e w1 ⟨rfl, hb⟩
        have B1 := Lib.hid hb
        clear hb
        go_wp2_with fail
        go_ret
        exact ⟨_, rfl, sameB_true (.refl _), B1.out⟩
theorem same_num {x y : Nat} (hx : x < 2 ^ 64) (hy : y < 2 ^ 64) (nx : ¬ isNan x) (ny : ¬ isNan y) : ((FloatKind.f64.format.order x y == some Ordering.eq) && (sg x == sg y)) = sameB x y := by
  have hs : Same x y ↔ x = y := ⟨fun h => by rcases h with h | ⟨h, _⟩; exact h; exact absurd h nx, fun h => .inl h⟩
  unfold sameB
  by_cases z : rg x = 0 ∧ rg y = 0
  · have e : D.order x y = some (compare (iv x) (iv y)) := order_num nx ny
    have i1 : iv x = 0 := by rw [← Int.natAbs_eq_zero, iv_natAbs]; unfold mv; rw [z.1]; decide
    have i2 : iv y = 0 := by rw [← Int.natAbs_eq_zero, iv_natAbs]; unfold mv; rw [z.2]; decide
    rw [show FloatKind.f64.format.order x y = some (compare (iv x) (iv y)) from e, i1, i2]
    have e1 := wd_sg_rg x hx
    have e2 := wd_sg_rg y hy
    rw [z.1] at e1
    rw [z.2] at e2
    by_cases c : sg x = sg y
    · have : x = y := by rw [← e1, ← e2, c]
      rw [decide_eq_true (hs.2 this), c]; simp
    · have : ¬ x = y := fun h => c (by rw [h])
      rw [decide_eq_false (fun h => this (hs.1 h))]; simp [c]
  · have h := (order_pl nx ny z).2.2
    have e : (FloatKind.f64.format.order x y == some Ordering.eq) = decide (pl x = pl y) := beq_dec h
    rw [e]
    by_cases c : pl x = pl y
    · have := pl_inj hx hy c
      subst this
      rw [decide_eq_true c, decide_eq_true (hs.2 rfl)]; simp
    · have : ¬ x = y := fun h => c (by rw [h])
      rw [decide_eq_false c, decide_eq_false (fun h => this (hs.1 h))]; rfl
theorem rsame_any (x y : Nat) (hx : x < 2 ^ 64) (hy : y < 2 ^ 64) (w : World) :
    Calls Tryd.prog 7 #[.float .f64 x, .float .f64 y] w fun e w' => e = .returned (.bool (sameB x y)) ∧ w = w' := by
  have NX := rnone_any x
  have NY := rnone_any y
  have GX := rsignbit_any x hx
  have GY := rsignbit_any y hy
  by_cases nx : isNan x
  · rw [decide_eq_true nx] at NX
    have NX := Lib.hid NX
    have NY := Lib.hid NY
    have e : decide (isNan y) = sameB x y := by
      unfold sameB Same
      refine decide_eq_decide.2 ⟨fun h => .inr ⟨nx, h⟩, fun h => ?_⟩
      rcases h with h | h
      · rw [← h]; exact nx
      · exact h.2
    rw [← e]
    clear hx hy nx GX GY e
    go_enter Tryd.func7, Tryd.ntmps7
    go_wp2_with (go_at_call 24; first | (refine (NX.out _).mono ?_; rintro e w' ⟨rfl, rfl⟩) | (refine (NY.out _).mono ?_; rintro e w' ⟨rfl, rfl⟩))
    go_ret
    exact ⟨rfl, rfl⟩
  · rw [decide_eq_false nx] at NX
    by_cases ny : isNan y
    · rw [decide_eq_true ny] at NY
      have NX := Lib.hid NX
      have NY := Lib.hid NY
      have e : sameB x y = false := by
        unfold sameB Same
        refine decide_eq_false fun h => ?_
        rcases h with h | h
        · rw [h] at nx; exact nx ny
        · exact nx h.1
      rw [e]
      clear hx hy nx ny GX GY e
      go_enter Tryd.func7, Tryd.ntmps7
      go_wp2_with (go_at_call 24; first | (refine (NX.out _).mono ?_; rintro e w' ⟨rfl, rfl⟩) | (refine (NY.out _).mono ?_; rintro e w' ⟨rfl, rfl⟩))
      go_ret
      exact ⟨rfl, rfl⟩
    · rw [decide_eq_false ny] at NY
      have NX := Lib.hid NX
      have NY := Lib.hid NY
      have E := same_num hx hy nx ny
      rw [← E]
      obtain ⟨o, ho⟩ : ∃ o, (FloatKind.f64.format.order x y == some Ordering.eq) = o := ⟨_, rfl⟩
      have GX := Lib.hid GX
      have GY := Lib.hid GY
      rw [ho]
      clear hx hy nx ny E
      cases o
      all_goals
        go_enter Tryd.func7, Tryd.ntmps7
        go_wp2_with (first | (go_at_call 24; first | (refine (NX.out _).mono ?_; rintro e w' ⟨rfl, rfl⟩) | (refine (NY.out _).mono ?_; rintro e w' ⟨rfl, rfl⟩)) | (go_at_call 25; first | (refine (GX.out _).mono ?_; rintro e w' ⟨rfl, rfl⟩) | (refine (GY.out _).mono ?_; rintro e w' ⟨rfl, rfl⟩)))
        go_ret
        exact ⟨by first | rfl | simp, rfl⟩
end Go.Proofs.YtokmommlabdcdaaDoor
