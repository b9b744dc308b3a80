/- Contracts of surdbig's put and Set. Contracts of surdbig's Abs, Lsh, SetUint64, SetInt64, NewInt, Sign, one. Contract of surdbig's Mul. Contract of surdbig's Add of whole numbers. Contracts of surdbig's Sign, one, SetUint64, SetInt64, NewInt, Uint64. Contracts of surdbig's Cmp and Uint64. -/
import Derived.Test.YtokmommlabdcdaaMBig7
import Derived.Test.YtokmommlabdcdaaMBmClone
import Derived.Deep.RegionHeld3
import Derived.Deep.RegionLaw
import Derived.Deep.DrawnRows
set_option linter.unusedVariables false
set_option linter.unusedSimpArgs false
namespace Go.Proofs.Ytokmommlabdcdaa
open Wd Fl Go.RowKit
set_option linter.unusedVariables false
set_option linter.unusedSimpArgs false
theorem iput_any (b o : Nat) (neg : Bool) (v : Value) (l : List Nat) (w : World) (hz : ZAt TW w b o 2) (hv : WAt TW w v l) (ok : Ok l) (nm : Nm l) (hl : l.length ≤ 4611686018427387904) :
    Calls Try.prog 31 #[.pointer (some ⟨b, o, none⟩), .bool neg, v] w (IntRet TW b o (sgn neg l) w) := by
  obtain ⟨a, cap, rfl⟩ := hv.slice
  obtain ⟨x0, c0⟩ := hz.cell o (by omega)
  obtain ⟨x1, c1⟩ := hz.cell (o + 1) (by omega)
  have f0 := hz.frozen o
  have f1 := hz.frozen (o + 1)
  have fin : IntRet TW b o (sgn neg l) w (.returned (.pointer (some ⟨b, o, none⟩))) ((w.setCell ⟨b, o + 1, none⟩ (.slice a l.length cap)).setCell ⟨b, o, none⟩ (.bool (neg && decide (0 < l.length)))) := by
    have W1 : Wr b o (o + 2) w (w.setCell ⟨b, o + 1, none⟩ (.slice a l.length cap)) := Wr.set _ (by omega) (by omega)
    have W2 := W1.trans (Wr.set (w := w.setCell ⟨b, o + 1, none⟩ (.slice a l.length cap)) (o := o) (.bool (neg && decide (0 < l.length))) (by omega) (by omega))
    refine ⟨rfl, ?_, W2⟩
    have hz2 := hz.wr W2
    obtain ⟨t, cur, ht, hc, hs⟩ := hz
    have hh1 := heap_setCell_same w b (o + 1) cur t (.slice a l.length cap) hc
    have hh2 := heap_setCell_same (w.setCell ⟨b, o + 1, none⟩ (.slice a l.length cap)) b o _ t (.bool (neg && decide (0 < l.length))) hh1
    refine ⟨b, o, neg && decide (0 < l.length), .slice a l.length cap, l, t, rfl, ht, ⟨_, hh2⟩, ?_, ?_, hv.wr W2 ⟨t, cur, ht, hc, hs⟩, ok, nm, ?_, ?_⟩
    · rw [cell_of_row _ _ _ _ _ _ hh2, Array.getElem?_setIfInBounds_self_of_lt (by rw [Array.size_setIfInBounds]; omega)]
    · rw [cell_of_row _ _ _ _ _ _ hh2, Array.getElem?_setIfInBounds_ne (by omega), Array.getElem?_setIfInBounds_self_of_lt (by omega)]
    · intro h; rintro rfl; simp at h
    · unfold sgn
      cases l with
      | nil => simp [val]
      | cons x r => simp
  have FIN := Lib.hid fin
  have p1 : (l.length : Int) ≤ 4611686018427387904 := by omega
  clear hz hv fin ok nm hl
  generalize l.length = n at *
  go_enter Try.func31, Try.ntmps31
  cases neg
  all_goals
    go_wp2
    have F := FIN.out
    simp only [Bool.true_and, Bool.false_and] at F
    go_ret
    exact F
theorem clone_below {w w1 : World} {T : TypeId} (h : (w.alloc (.cells #[] T)).drew.grownBy w1 (Value.slice (some ⟨w.heap.size, 0, none⟩) 0 0).ownBlock) : Below w.heap.size w w1 :=
  ((Below.refl _ _).alloc (Nat.le_refl _) _).trans ⟨h.os, h.tape, h.output, h.size, fun k hk => h.block k (by simp; omega) (by simp [Value.ownBlock]; omega)⟩
theorem sgn_not (neg : Bool) (l : List Nat) : sgn (!neg) l = -sgn neg l := by unfold sgn; cases neg <;> simp
set_option maxRecDepth 100000 in
set_option maxHeartbeats 2000000 in
theorem iset_any (bz oz bx ox : Nat) (n : Int) (w : World) (hz : ZAt TW w bz oz 2) (hx : IntAt TW w ⟨bx, ox, none⟩ n) (hn : bl n ≤ 100000) :
    Calls Try.prog 86 #[.pointer (some ⟨bz, oz, none⟩), .pointer (some ⟨bx, ox, none⟩)] w (IntRet TW bz oz n w) := by
  obtain ⟨i0, hi0, hz0, hz1, hz2⟩ := info_parts infoW
  obtain ⟨neg, a, cap, l, h1, h2, H3, OK, NM, HN, HE, HK, N1⟩ := IntAt.open hx
  have HZ := Lib.hid hz
  have HL0 := Lib.hid (HK.out _ hn)
  clear hz hx hn
  generalize hL : l.length = len at *
  have HL := Lib.hid hL
  clear hL
  go_enter Try.func86, Try.ntmps86
  go_wp2_with fail
  have HB : Below w.heap.size w (w.alloc (.cells #[] TW)) := (Below.refl _ _).alloc (Nat.le_refl _) _
  have HW := Lib.hid (H3.out.below HB)
  have HO := Lib.hid (World.ownsRow_lit (base := w.heap.size) (e := TW) (size := 1) w #[] 0 (Nat.le_refl _) (by decide) rfl)
  have HBB := Lib.hid HB
  have q1 : (w.alloc (.cells #[] 89)).cell? ⟨bx, ox, none⟩ = some (.bool neg) := (HB.cell (p := ⟨bx, ox, none⟩) N1).trans h1
  have q2 : (w.alloc (.cells #[] 89)).cell? ⟨bx, ox + 1, none⟩ = some (.slice a len cap) := (HB.cell (p := ⟨bx, ox + 1, none⟩) N1).trans h2
  clear HB
  go_region_law (first | (refine step_clone (by rfl) (.tmp 10) (.tmp 14) 43 (by rfl) TW i0 _ Try.underlying43 hi0 hz0 hz1 hz2 rfl w.heap.size (.slice (some ⟨w.heap.size, 0, none⟩) 0 0) (by rfl) HO.out (.slice a len cap) l (by rfl) HW.out (by have := HL0.out; have := HL.out; omega) (by simp) ?_; intro v' w1 hw1 hg1; have hb1 := Lib.hid (clone_below hg1); have hw1' := Lib.hid hw1; have q3 := (hb1.out.cell (p := ⟨bx, ox, none⟩) N1).trans h1; clear hw1 hg1) | (go_simp; go_at_call 31; refine (iput_any _ _ _ _ l _ (HZ.out.below hb1.out) hw1'.out OK.out NM.out (by have := HL0.out; have := HL.out; omega)).mono ?_; rintro e w2 ⟨rfl, hi2, hr2⟩; have HI2 := Lib.hid hi2; have HR2 := Lib.hid ((Wr.of_below _ _ _ hb1.out).trans hr2); clear hi2 hr2))
  all_goals
    go_wp2_with fail
    go_ret
    exact ⟨rfl, by rw [HE.out]; exact HI2.out, HR2.out⟩
set_option maxRecDepth 100000 in
set_option maxHeartbeats 2000000 in
theorem ineg_any (bz oz bx ox : Nat) (n : Int) (w : World) (hz : ZAt TW w bz oz 2) (hx : IntAt TW w ⟨bx, ox, none⟩ n) (hn : bl n ≤ 100000) :
    Calls Try.prog 88 #[.pointer (some ⟨bz, oz, none⟩), .pointer (some ⟨bx, ox, none⟩)] w (IntRet TW bz oz (-n) w) := by
  obtain ⟨i0, hi0, hz0, hz1, hz2⟩ := info_parts infoW
  obtain ⟨neg, a, cap, l, h1, h2, H3, OK, NM, HN, HE, HK, N1⟩ := IntAt.open hx
  have HZ := Lib.hid hz
  have HL0 := Lib.hid (HK.out _ hn)
  clear hz hx hn
  generalize hL : l.length = len at *
  have HL := Lib.hid hL
  clear hL
  go_enter Try.func88, Try.ntmps88
  go_wp2_with fail
  have HB : Below w.heap.size w (w.alloc (.cells #[] TW)) := (Below.refl _ _).alloc (Nat.le_refl _) _
  have HW := Lib.hid (H3.out.below HB)
  have HO := Lib.hid (World.ownsRow_lit (base := w.heap.size) (e := TW) (size := 1) w #[] 0 (Nat.le_refl _) (by decide) rfl)
  have HBB := Lib.hid HB
  have q1 : (w.alloc (.cells #[] 89)).cell? ⟨bx, ox, none⟩ = some (.bool neg) := (HB.cell (p := ⟨bx, ox, none⟩) N1).trans h1
  have q2 : (w.alloc (.cells #[] 89)).cell? ⟨bx, ox + 1, none⟩ = some (.slice a len cap) := (HB.cell (p := ⟨bx, ox + 1, none⟩) N1).trans h2
  clear HB
  go_region_law (first | (refine step_clone (by rfl) (.tmp 11) (.tmp 15) 43 (by rfl) TW i0 _ Try.underlying43 hi0 hz0 hz1 hz2 rfl w.heap.size (.slice (some ⟨w.heap.size, 0, none⟩) 0 0) (by rfl) HO.out (.slice a len cap) l (by rfl) HW.out (by have := HL0.out; have := HL.out; omega) (by simp) ?_; intro v' w1 hw1 hg1; have hb1 := Lib.hid (clone_below hg1); have hw1' := Lib.hid hw1; have q3 := (hb1.out.cell (p := ⟨bx, ox, none⟩) N1).trans h1; clear hw1 hg1) | (go_simp; go_at_call 31; refine (iput_any _ _ _ _ l _ (HZ.out.below hb1.out) hw1'.out OK.out NM.out (by have := HL0.out; have := HL.out; omega)).mono ?_; rintro e w2 ⟨rfl, hi2, hr2⟩; have HI2 := Lib.hid hi2; have HR2 := Lib.hid ((Wr.of_below _ _ _ hb1.out).trans hr2); clear hi2 hr2))
  all_goals
    go_wp2_with fail
    go_ret
    exact ⟨rfl, by rw [HE.out, ← sgn_not]; exact HI2.out, HR2.out⟩
end Go.Proofs.Ytokmommlabdcdaa
namespace Go.Proofs.Ytokmommlabdcdaa
open Wd Fl Go.RowKit
set_option linter.unusedVariables false
set_option linter.unusedSimpArgs false
theorem clone_below0 {w w1 : World} {T : TypeId} (h : (w.alloc (.cells #[] T)).grownBy w1 (Value.slice (some ⟨w.heap.size, 0, none⟩) 0 0).ownBlock) : Below w.heap.size w w1 :=
  ((Below.refl _ _).alloc (Nat.le_refl _) _).trans ⟨h.os, h.tape, h.output, h.size, fun k hk => h.block k (by simp; omega) (by simp [Value.ownBlock]; omega)⟩
set_option maxRecDepth 100000 in
set_option maxHeartbeats 2000000 in
theorem iabs_any (bz oz bx ox : Nat) (n : Int) (w : World) (hz : ZAt TW w bz oz 2) (hx : IntAt TW w ⟨bx, ox, none⟩ n) (hn : bl n ≤ 100000) :
    Calls Try.prog 87 #[.pointer (some ⟨bz, oz, none⟩), .pointer (some ⟨bx, ox, none⟩)] w (IntRet TW bz oz (n.natAbs : Nat) w) := by
  obtain ⟨i0, hi0, hz0, hz1, hz2⟩ := info_parts infoW
  obtain ⟨neg, a, cap, l, h1, h2, H3, OK, NM, HN, HE, HK, N1⟩ := IntAt.open hx
  have HZ := Lib.hid hz
  have HL0 := Lib.hid (HK.out _ hn)
  clear hz hx hn
  generalize hL : l.length = len at *
  have HL := Lib.hid hL
  clear hL
  have HB : Below w.heap.size w (w.alloc (.cells #[] TW)) := (Below.refl _ _).alloc (Nat.le_refl _) _
  have HW := Lib.hid (H3.out.below HB)
  have HO := Lib.hid (World.ownsRow_lit (base := w.heap.size) (e := TW) (size := 1) w #[] 0 (Nat.le_refl _) (by decide) rfl)
  have q2 : (w.alloc (.cells #[] 89)).cell? ⟨bx, ox + 1, none⟩ = some (.slice a len cap) := (HB.cell (p := ⟨bx, ox + 1, none⟩) N1).trans h2
  clear HB h1
  go_enter Try.func87, Try.ntmps87
  go_wp2_with (first | (at_builtin; refine wpList_clone (by rfl) (.tmp 6) (.tmp 10) 43 (by rfl) TW i0 _ Try.underlying43 hi0 hz0 hz1 hz2 rfl w.heap.size (.slice (some ⟨w.heap.size, 0, none⟩) 0 0) (by rfl) HO.out (.slice a len cap) l (by rfl) HW.out (by have := HL0.out; have := HL.out; omega) (by simp) ?_; intro v' w1 hw1 hg1; have hb1 := Lib.hid (clone_below0 hg1); have hw1' := Lib.hid hw1; clear hw1 hg1) | (go_at_call 31; refine (iput_any _ _ _ _ l _ (HZ.out.below hb1.out) hw1'.out OK.out NM.out (by have := HL0.out; have := HL.out; omega)).mono ?_; rintro e w2 ⟨rfl, hi2, hr2⟩; have HI2 := Lib.hid hi2; have HR2 := Lib.hid ((Wr.of_below _ _ _ hb1.out).trans hr2); clear hi2 hr2))
  go_ret
  exact ⟨rfl, by rw [HE.out, sgn_abs]; exact HI2.out, HR2.out⟩
theorem len_small {l : List Nat} (nm : Nm l) (h : blen (val l) ≤ 1000000) : l.length ≤ 4611686018427387904 := by
  have := len_of_blen nm h; omega
theorem sgn_scale (neg : Bool) (l m : List Nat) (k : Nat) (h : val m = val l * k) : sgn neg m = sgn neg l * k := by
  unfold sgn; rw [h]; cases neg <;> simp [Int.neg_mul]
set_option maxRecDepth 100000 in
set_option maxHeartbeats 2000000 in
theorem lsh_any (bz oz bx ox : Nat) (n : Int) (k : Nat) (w : World) (hz : ZAt TW w bz oz 2) (hx : IntAt TW w ⟨bx, ox, none⟩ n) (hn : bl n ≤ 100000) (hk : k ≤ 100000) :
    Calls Try.prog 100 #[.pointer (some ⟨bz, oz, none⟩), .pointer (some ⟨bx, ox, none⟩), .int .u64 (k : Int)] w (IntRet TW bz oz (n * ((2 ^ k : Nat) : Int)) w) := by
  obtain ⟨neg, a, cap, l, h1, h2, H3, OK, NM, HN, HE, HK, N1⟩ := IntAt.open hx
  have HZ := Lib.hid hz
  have H3D := Lib.hid (H3.out.below (Below.refl _ w).drew)
  have HL0 := Lib.hid (HK.out _ hn)
  have HB := Lib.hid hn
  have HKK := Lib.hid hk
  have HM : Hid (blen (val l * 2 ^ k) ≤ 1000000) := Lib.hid (by
    have h1 := blen_mul (val l) (2 ^ k)
    rw [blen_pow] at h1
    have h2 : blen (val l) ≤ 100000 := by unfold bl at hn; rw [HE.out, sgn_abs] at hn; exact hn
    omega)
  obtain ⟨r, hr⟩ : ∃ r, n * ((2 ^ k : Nat) : Int) = r := ⟨_, rfl⟩
  rw [hr]
  have HR := Lib.hid hr
  clear hz hx hn hk hr
  generalize hL : l.length = len at *
  have HL := Lib.hid hL
  clear hL
  go_enter Try.func100, Try.ntmps100
  go_wp2_with fail
  go_region_law (first | (go_simp; go_at_call 109; refine (up_any _ l k w.drew H3D.out OK.out (by have := HL0.out; have := HL.out; omega) (by have := HKK.out; omega)).mono ?_; rintro e w1 ⟨v', l', rfl, hw1, ok1, nm1, hv1, hb1⟩; have HW1 := Lib.hid hw1; have OK1 := Lib.hid ok1; have NM1 := Lib.hid nm1; have HV1 := Lib.hid hv1; have HB1 := Lib.hid ((Below.refl w.heap.size w).drew.trans hb1); have q1 := (HB1.out.cell (p := ⟨bx, ox, none⟩) N1).trans h1; clear hw1 ok1 nm1 hv1 hb1) | (go_simp; go_at_call 31; refine (iput_any _ _ _ _ l' _ (HZ.out.below HB1.out) HW1.out OK1.out NM1.out (len_small NM1.out (by rw [HV1.out]; exact HM.out))).mono ?_; rintro e w2 ⟨rfl, hi2, hr2⟩; have HI2 := Lib.hid hi2; have HR2 := Lib.hid ((Wr.of_below _ _ _ HB1.out).trans hr2); clear hi2 hr2))
  all_goals
    go_wp2_with fail
    go_ret
    exact ⟨rfl, by rw [← HR.out, HE.out, ← sgn_scale _ _ _ _ HV1.out]; exact HI2.out, HR2.out⟩
end Go.Proofs.Ytokmommlabdcdaa
namespace Go.Proofs.Ytokmommlabdcdaa
open Wd Fl Go.RowKit
set_option linter.unusedVariables false
set_option linter.unusedSimpArgs false
theorem sgn_mul (p q : Bool) (l m r : List Nat) (h : val r = val l * val m) : sgn (p != q) r = sgn p l * sgn q m := by
  unfold sgn; rw [h]; cases p <;> cases q <;> simp [Int.neg_mul, Int.mul_neg]
set_option maxRecDepth 100000 in
set_option maxHeartbeats 8000000 in
theorem imul_any (bz oz bx ox bY oY : Nat) (n m : Int) (w : World) (hz : ZAt TW w bz oz 2) (hx : IntAt TW w ⟨bx, ox, none⟩ n) (hy : IntAt TW w ⟨bY, oY, none⟩ m) (hn : bl n ≤ 100000) (hm : bl m ≤ 100000) (h48 : bl n ≤ 1500 ∨ bl m ≤ 1500) :
    Calls Try.prog 20 #[.pointer (some ⟨bz, oz, none⟩), .pointer (some ⟨bx, ox, none⟩), .pointer (some ⟨bY, oY, none⟩)] w (IntRet TW bz oz (n * m) w) := by
  obtain ⟨neg, a, cap, l, h1, h2, H3, OK, NM, HN, HE, HK, N1⟩ := IntAt.open hx
  obtain ⟨neg2, a2, cap2, l2, h12, h22, H32, OK2, NM2, HN2, HE2, HK2, N12⟩ := IntAt.open hy
  have HZ := Lib.hid hz
  have H3D := Lib.hid (H3.out.below (Below.refl _ w).drew)
  have H3D2 := Lib.hid (H32.out.below (Below.refl _ w).drew)
  have HL0 := Lib.hid (HK.out _ hn)
  have HL02 := Lib.hid (HK2.out _ hm)
  have H48 : Hid (l.length < 48 ∨ l2.length < 48) := Lib.hid (by have a1 := HK.out 1500; have a2 := HK2.out 1500; omega)
  have HM : Hid (blen (val l * val l2) ≤ 1000000) := Lib.hid (by
    have h1 := blen_mul (val l) (val l2)
    have h2 : blen (val l) ≤ 100000 := by unfold bl at hn; rw [HE.out, sgn_abs] at hn; exact hn
    have h3 : blen (val l2) ≤ 100000 := by unfold bl at hm; rw [HE2.out, sgn_abs] at hm; exact hm
    omega)
  obtain ⟨r, hr⟩ : ∃ r, n * m = r := ⟨_, rfl⟩
  rw [hr]
  have HR := Lib.hid hr
  clear hz hx hn hr hm hy h48
  generalize hL : l.length = len at *
  have HL := Lib.hid hL
  clear hL
  generalize hL : l2.length = len2 at *
  have HL2 := Lib.hid hL
  clear hL
  go_enter Try.func20, Try.ntmps20
  go_wp2_with fail
  go_region_law (first | (go_simp; go_at_call 36; refine (product_any _ _ l l2 w.drew H3D.out H3D2.out OK.out OK2.out (by have := HL0.out; have := HL.out; omega) (by have := HL02.out; have := HL2.out; omega) (by have := H48.out; have := HL.out; have := HL2.out; omega)).mono ?_; rintro e w1 ⟨v', l', rfl, hw1, ok1, nm1, hv1, hb1⟩; have HW1 := Lib.hid hw1; have OK1 := Lib.hid ok1; have NM1 := Lib.hid nm1; have HV1 := Lib.hid hv1; have HB1 := Lib.hid ((Below.refl w.heap.size w).drew.trans hb1); have q1 := (HB1.out.cell (p := ⟨bx, ox, none⟩) N1).trans h1; have q12 := (HB1.out.cell (p := ⟨bY, oY, none⟩) N12).trans h12; clear hw1 ok1 nm1 hv1 hb1) | (go_simp; go_at_call 31; refine (iput_any _ _ _ _ l' _ (HZ.out.below HB1.out) HW1.out OK1.out NM1.out (len_small NM1.out (by rw [HV1.out]; exact HM.out))).mono ?_; rintro e w2 ⟨rfl, hi2, hr2⟩; have HI2 := Lib.hid hi2; have HR2 := Lib.hid ((Wr.of_below _ _ _ HB1.out).trans hr2); clear hi2 hr2))
  all_goals
    go_wp2_with fail
    go_ret
    exact ⟨rfl, by rw [← HR.out, HE.out, HE2.out, ← sgn_mul _ _ _ _ _ HV1.out]; exact HI2.out, HR2.out⟩
end Go.Proofs.Ytokmommlabdcdaa
namespace Go.Proofs.Ytokmommlabdcdaa
open Wd Fl Go.RowKit
set_option linter.unusedVariables false
set_option linter.unusedSimpArgs false
theorem sgn_add (p : Bool) (l m r : List Nat) (h : val r = val l + val m) : sgn p r = sgn p l + sgn p m := by
  unfold sgn; rw [h]; cases p <;> simp <;> omega
theorem sgn_less (p q : Bool) (l m r : List Nat) (hpq : p ≠ q) (hle : val m ≤ val l) (h : val r = val l - val m) : sgn p r = sgn p l + sgn q m := by
  unfold sgn; rw [h]; cases p <;> cases q <;> simp at hpq ⊢ <;> omega
theorem len_of_le {l m : List Nat} (ol : Ok l) (nm : Nm m) (h : val m ≤ val l) : m.length ≤ l.length := by
  rcases Nat.lt_or_ge l.length m.length with c | c
  · have := cmp_len ol nm c; omega
  · exact c
set_option maxRecDepth 100000 in
set_option maxHeartbeats 8000000 in
theorem iadd_any (bz oz bx ox bY oY : Nat) (n m : Int) (w : World) (hz : ZAt TW w bz oz 2) (hx : IntAt TW w ⟨bx, ox, none⟩ n) (hy : IntAt TW w ⟨bY, oY, none⟩ m) (hn : bl n ≤ 100000) (hm : bl m ≤ 100000) :
    Calls Try.prog 17 #[.pointer (some ⟨bz, oz, none⟩), .pointer (some ⟨bx, ox, none⟩), .pointer (some ⟨bY, oY, none⟩)] w (IntRet TW bz oz (n + m) w) := by
  obtain ⟨neg, a, cap, l, h1, h2, H3, OK, NM, HN, HE, HK, N1⟩ := IntAt.open hx
  obtain ⟨neg2, a2, cap2, l2, h12, h22, H32, OK2, NM2, HN2, HE2, HK2, N12⟩ := IntAt.open hy
  have HZ := Lib.hid hz
  have hd : Below w.heap.size w w.drew := (Below.refl _ w).drew
  have hl0 := HK.out _ hn
  have hl02 := HK2.out _ hm
  have b1 : blen (val l) ≤ 100000 := by unfold bl at hn; rw [HE.out, sgn_abs] at hn; exact hn
  have b2 : blen (val l2) ≤ 100000 := by unfold bl at hm; rw [HE2.out, sgn_abs] at hm; exact hm
  have HD := Lib.hid hd
  have H3D := Lib.hid (H3.out.below (Below.refl _ w).drew)
  have H3D2 := Lib.hid (H32.out.below (Below.refl _ w).drew)
  have HL0 := Lib.hid hl0
  have HL02 := Lib.hid hl02
  have B1 := Lib.hid b1
  have B2 := Lib.hid b2
  obtain ⟨r, hr⟩ : ∃ r, n + m = r := ⟨_, rfl⟩
  rw [hr]
  have HR := Lib.hid hr
  clear hz hx hn hr hm hy hd hl0 hl02 b1 b2
  by_cases hs : neg = neg2
  · subst hs
    have HM : Hid (blen (val l + val l2) ≤ 1000000) := Lib.hid (by have := blen_add _ _ 100000 B1.out B2.out; omega)
    generalize hL : l.length = len at *
    have HL := Lib.hid hL
    clear hL
    generalize hL : l2.length = len2 at *
    have HL2 := Lib.hid hL
    clear hL
    go_enter Try.func17, Try.ntmps17
    go_wp2_with fail
    go_quiet (fail)
    go_wp2_with fail
    go_region_law (first | (go_simp; go_at_call 32; refine (sum_any _ _ l l2 (w.drewN (nq + 1)) (H3.out.below (below_drewN (Below.refl _ w) (nq + 1))) (H32.out.below (below_drewN (Below.refl _ w) (nq + 1))) OK.out OK2.out (by have := HL0.out; have := HL.out; omega) (by have := HL02.out; have := HL2.out; omega)).mono ?_; rintro e w1 ⟨v', l', rfl, hw1, ok1, nm1, hv1, hb1⟩; have HW1 := Lib.hid hw1; have OK1 := Lib.hid ok1; have NM1 := Lib.hid nm1; have HV1 := Lib.hid hv1; have HB1 := Lib.hid ((below_drewN (Below.refl w.heap.size w) (nq + 1)).trans hb1); have q1 := (HB1.out.cell (p := ⟨bx, ox, none⟩) N1).trans h1; have q12 := (HB1.out.cell (p := ⟨bY, oY, none⟩) N12).trans h12; clear hw1 ok1 nm1 hv1 hb1) | (go_simp; go_at_call 31; refine (iput_any _ _ _ _ l' _ (HZ.out.below HB1.out) HW1.out OK1.out NM1.out (len_small NM1.out (by rw [HV1.out]; exact HM.out))).mono ?_; rintro e w2 ⟨rfl, hi2, hr2⟩; have HI2 := Lib.hid hi2; have HR2 := Lib.hid ((Wr.of_below _ _ _ HB1.out).trans hr2); clear hi2 hr2))
    all_goals
      go_wp2_with fail
      go_ret
      exact ⟨rfl, by rw [← HR.out, HE.out, HE2.out, ← sgn_add _ _ _ _ HV1.out]; exact HI2.out, HR2.out⟩
  · have hs' : (neg == neg2) = false := by cases neg <;> cases neg2 <;> simp at hs ⊢
    have HS := Lib.hid hs
    clear hs
    by_cases hle : val l2 ≤ val l
    · have hc : ∃ c : Int, cmpI (val l) (val l2) = c ∧ 0 ≤ c := by
        refine ⟨_, rfl, ?_⟩
        unfold cmpI; rw [if_neg (by omega)]; split <;> omega
      obtain ⟨c, hc, hc0⟩ := hc
      have HC := Lib.hid hc
      have HM : Hid (blen (val l - val l2) ≤ 1000000) := Lib.hid (by have := blen_mono (Nat.sub_le (val l) (val l2)); have := B1.out; omega)
      have HLL := Lib.hid (len_of_le OK.out NM2.out hle)
      have HLE := Lib.hid hle
      clear hc hle
      generalize hL : l.length = len at *
      have HL := Lib.hid hL
      clear hL
      generalize hL : l2.length = len2 at *
      have HL2 := Lib.hid hL
      clear hL
      go_enter Try.func17, Try.ntmps17
      go_wp2_with fail
      go_quiet (fail)
      go_wp2_with fail
      go_region_law (go_simp; go_at_call 33; refine (compare_any _ _ l l2 (w.drewN (nq + 1)) (H3.out.below (below_drewN (Below.refl _ w) (nq + 1))) (H32.out.below (below_drewN (Below.refl _ w) (nq + 1))) OK.out OK2.out NM.out NM2.out (by have := HL0.out; have := HL.out; omega) (by have := HL02.out; have := HL2.out; omega)).mono ?_; rintro e w5 ⟨rfl, hb5⟩; rw [HC.out]; have HB5 := Lib.hid ((below_drewN (Below.refl w.heap.size w) (nq + 1)).trans hb5); clear hb5)
      all_goals
        have g1 := (HB5.out.cell (p := ⟨bx, ox, none⟩) N1).trans h1
        have g2 := (HB5.out.cell (p := ⟨bx, ox + 1, none⟩) N1).trans h2
        have g12 := (HB5.out.cell (p := ⟨bY, oY, none⟩) N12).trans h12
        have g22 := (HB5.out.cell (p := ⟨bY, oY + 1, none⟩) N12).trans h22
        go_wp2_with fail
        go_region_law (first | (go_simp; go_at_call 34; refine (less_any _ _ l l2 (w5.drewN 1) (H3.out.below (below_drewN HB5.out 1)) (H32.out.below (below_drewN HB5.out 1)) OK.out OK2.out (by have := HL0.out; have := HL.out; have := HL02.out; have := HL2.out; omega) (by have := HLL.out; have := HL.out; have := HL2.out; omega) HLE.out).mono ?_; rintro e w1 ⟨v', l', rfl, hw1, ok1, nm1, hv1, hb1⟩; have HW1 := Lib.hid hw1; have OK1 := Lib.hid ok1; have NM1 := Lib.hid nm1; have HV1 := Lib.hid hv1; have HB1 := Lib.hid ((below_drewN HB5.out 1).trans (hb1.mono (by have := HB5.out.size; simp; omega))); have q1 := (HB1.out.cell (p := ⟨bx, ox, none⟩) N1).trans h1; have q12 := (HB1.out.cell (p := ⟨bY, oY, none⟩) N12).trans h12; clear hw1 ok1 nm1 hv1 hb1) | (go_simp; go_at_call 31; refine (iput_any _ _ _ _ l' _ (HZ.out.below HB1.out) HW1.out OK1.out NM1.out (len_small NM1.out (by rw [HV1.out]; exact HM.out))).mono ?_; rintro e w2 ⟨rfl, hi2, hr2⟩; have HI2 := Lib.hid hi2; have HR2 := Lib.hid ((Wr.of_below _ _ _ HB1.out).trans hr2); clear hi2 hr2))
        all_goals
          go_wp2_with fail
          go_ret
          exact ⟨rfl, by rw [← HR.out, HE.out, HE2.out, ← sgn_less _ _ _ _ _ HS.out HLE.out HV1.out]; exact HI2.out, HR2.out⟩
    · have hc : ∃ c : Int, cmpI (val l) (val l2) = c ∧ c < 0 := by
        refine ⟨_, rfl, ?_⟩
        unfold cmpI; rw [if_pos (by omega)]; omega
      obtain ⟨c, hc, hc0⟩ := hc
      have HC := Lib.hid hc
      have HM : Hid (blen (val l2 - val l) ≤ 1000000) := Lib.hid (by have := blen_mono (Nat.sub_le (val l2) (val l)); have := B2.out; omega)
      have hle' : val l ≤ val l2 := by omega
      have HLL := Lib.hid (len_of_le OK2.out NM.out hle')
      have HLE := Lib.hid hle'
      clear hc hle hle'
      generalize hL : l.length = len at *
      have HL := Lib.hid hL
      clear hL
      generalize hL : l2.length = len2 at *
      have HL2 := Lib.hid hL
      clear hL
      go_enter Try.func17, Try.ntmps17
      go_wp2_with fail
      go_quiet (fail)
      go_wp2_with fail
      go_region_law (go_simp; go_at_call 33; refine (compare_any _ _ l l2 (w.drewN (nq + 1)) (H3.out.below (below_drewN (Below.refl _ w) (nq + 1))) (H32.out.below (below_drewN (Below.refl _ w) (nq + 1))) OK.out OK2.out NM.out NM2.out (by have := HL0.out; have := HL.out; omega) (by have := HL02.out; have := HL2.out; omega)).mono ?_; rintro e w5 ⟨rfl, hb5⟩; rw [HC.out]; have HB5 := Lib.hid ((below_drewN (Below.refl w.heap.size w) (nq + 1)).trans hb5); clear hb5)
      all_goals
        have g1 := (HB5.out.cell (p := ⟨bx, ox, none⟩) N1).trans h1
        have g2 := (HB5.out.cell (p := ⟨bx, ox + 1, none⟩) N1).trans h2
        have g12 := (HB5.out.cell (p := ⟨bY, oY, none⟩) N12).trans h12
        have g22 := (HB5.out.cell (p := ⟨bY, oY + 1, none⟩) N12).trans h22
        go_wp2_with fail
        go_region_law (first | (go_simp; go_at_call 34; refine (less_any _ _ l2 l (w5.drewN 1) (H32.out.below (below_drewN HB5.out 1)) (H3.out.below (below_drewN HB5.out 1)) OK2.out OK.out (by have := HL0.out; have := HL.out; have := HL02.out; have := HL2.out; omega) (by have := HLL.out; have := HL.out; have := HL2.out; omega) HLE.out).mono ?_; rintro e w1 ⟨v', l', rfl, hw1, ok1, nm1, hv1, hb1⟩; have HW1 := Lib.hid hw1; have OK1 := Lib.hid ok1; have NM1 := Lib.hid nm1; have HV1 := Lib.hid hv1; have HB1 := Lib.hid ((below_drewN HB5.out 1).trans (hb1.mono (by have := HB5.out.size; simp; omega))); have q1 := (HB1.out.cell (p := ⟨bx, ox, none⟩) N1).trans h1; have q12 := (HB1.out.cell (p := ⟨bY, oY, none⟩) N12).trans h12; clear hw1 ok1 nm1 hv1 hb1) | (go_simp; go_at_call 31; refine (iput_any _ _ _ _ l' _ (HZ.out.below HB1.out) HW1.out OK1.out NM1.out (len_small NM1.out (by rw [HV1.out]; exact HM.out))).mono ?_; rintro e w2 ⟨rfl, hi2, hr2⟩; have HI2 := Lib.hid hi2; have HR2 := Lib.hid ((Wr.of_below _ _ _ HB1.out).trans hr2); clear hi2 hr2))
        all_goals
          go_wp2_with fail
          go_ret
          exact ⟨rfl, by rw [← HR.out, HE.out, HE2.out, Int.add_comm, ← sgn_less _ _ _ _ _ (Ne.symm HS.out) HLE.out HV1.out]; exact HI2.out, HR2.out⟩
end Go.Proofs.Ytokmommlabdcdaa
namespace Go.Proofs.Ytokmommlabdcdaa
open Wd Fl Go.RowKit
set_option linter.unusedVariables false
set_option linter.unusedSimpArgs false
def sigI (n : Int) : Int := if n < 0 then -1 else if n = 0 then 0 else 1
theorem sigI_of {neg : Bool} {l : List Nat} (nm : Nm l) : sigI (sgn neg l) = if l = [] then 0 else if neg then -1 else 1 := by
  unfold sigI sgn
  by_cases h : l = []
  · subst h; simp [val]
  · have := nm.pos h
    rw [if_neg h]
    cases neg
    · simp; omega
    · simp; omega
set_option maxRecDepth 100000 in
set_option maxHeartbeats 2000000 in
theorem isign_any (bx ox : Nat) (n : Int) (w : World) (hx : IntAt TW w ⟨bx, ox, none⟩ n) (hn : bl n ≤ 100000) :
    Calls Try.prog 84 #[.pointer (some ⟨bx, ox, none⟩)] w fun e w' => e = .returned (.int .i64 (sigI n)) ∧ w = w' := by
  obtain ⟨neg, a, cap, l, h1, h2, H3, OK, NM, HN, HE, HK, N1⟩ := IntAt.open hx
  have HS := Lib.hid (sigI_of (neg := neg) NM.out)
  rw [← HE.out] at HS
  clear hx hn
  by_cases h0 : l = []
  · have h9 : sigI n = 0 := by rw [HS.out, if_pos h0]
    rw [h9]
    subst h0
    simp only [List.length_nil] at h2
    go_enter Try.func84, Try.ntmps84
    go_wp2
    go_ret
    exact ⟨rfl, rfl⟩
  · have h9 : sigI n = if neg then -1 else 1 := by rw [HS.out, if_neg h0]
    have hl : ¬ l.length = 0 := fun h => h0 (List.eq_nil_of_length_eq_zero h)
    have hlI : (((l.length : Nat) : Int) == 0) = false := by rw [beq_eq_false_iff_ne]; omega
    clear h0 H3 OK NM HN HK HS
    generalize l.length = len at *
    cases neg
    all_goals
      simp only [if_true, if_false, Bool.false_eq_true] at h9
      rw [h9]
      clear h9
      go_enter Try.func84, Try.ntmps84
      go_wp2
      go_ret
      exact ⟨rfl, rfl⟩
theorem sgn_one {neg : Bool} {l : List Nat} (ok : Ok l) (nm : Nm l) : sgn neg l = 1 ↔ l = [1] ∧ neg = false := by
  unfold sgn
  have h1 : Ok [1] := .cons (by decide) .nil
  have h2 : Nm [1] := by unfold Nm; simp
  cases neg
  · simp only [Bool.false_eq_true, if_false, and_true]
    constructor
    · intro h; exact val_inj ok h1 nm h2 (by rw [val_single]; omega)
    · rintro rfl; rfl
  · simp; omega
set_option maxRecDepth 100000 in
set_option maxHeartbeats 2000000 in
theorem one_any (bx ox : Nat) (n : Int) (w : World) (hx : IntAt TW w ⟨bx, ox, none⟩ n) (hn : bl n ≤ 100000) :
    Calls Try.prog 81 #[.pointer (some ⟨bx, ox, none⟩)] w fun e w' => e = .returned (.bool (decide (n = 1))) ∧ w = w' := by
  obtain ⟨neg, a, cap, l, h1, h2, H3, OK, NM, HN, HE, HK, N1⟩ := IntAt.open hx
  have HS := Lib.hid (sgn_one (neg := neg) OK.out NM.out)
  rw [← HE.out] at HS
  clear hx hn
  by_cases h0 : l.length = 1
  · obtain ⟨x, rfl⟩ := List.length_eq_one_iff.1 h0
    obtain ⟨_, b, off, rfl, hc, ht, hf⟩ := wcell H3.out (by simp)
    have hf0 := hf 0 (by simp)
    simp only [List.length_singleton, Nat.add_zero, List.getD_cons_zero] at h2 hf0 hc
    have hcI : (1 : Int) ≤ (cap : Int) := by omega
    have hx4 : x < 4294967296 := OK.out x (by simp)
    clear hf ht hc H3 OK NM HN HK h0
    by_cases hx1 : x = 1
    · subst hx1
      have h9 : decide (n = 1) = !neg := by
        cases neg
        · simp [HS.out]
        · simp [HS.out]
      rw [h9]
      clear h9 HS hx4
      go_enter Try.func81, Try.ntmps81
      go_wp2
      go_ret
      exact ⟨rfl, rfl⟩
    · have h9 : decide (n = 1) = false := by
        refine decide_eq_false fun h => ?_
        have := (HS.out.1 h).1
        injection this with h _
        exact hx1 h
      have hxI : (((x : Nat) : Int) == 1) = false := by rw [beq_eq_false_iff_ne]; omega
      rw [h9]
      clear h9 HS hx1
      go_enter Try.func81, Try.ntmps81
      go_wp2
      go_ret
      exact ⟨rfl, rfl⟩
  · have h9 : decide (n = 1) = false := by
      refine decide_eq_false fun h => ?_
      have := (HS.out.1 h).1
      subst this
      exact h0 rfl
    have hlI : (((l.length : Nat) : Int) == 1) = false := by rw [beq_eq_false_iff_ne]; omega
    rw [h9]
    clear h9 HS h0 H3 OK NM HN HK
    generalize l.length = len at *
    go_enter Try.func81, Try.ntmps81
    go_wp2
    go_ret
    exact ⟨rfl, rfl⟩
theorem lit2 (w : World) (a b : Nat) : WAt TW (w.alloc (.cells #[.int .u32 (a : Int), .int .u32 (b : Int)] TW)) (.slice (some ⟨w.heap.size, 0, none⟩) 2 2) [a, b] :=
  WAt.of_own (base := w.heap.size) (World.ownsRow_lit (size := 1) w _ 2 (Nat.le_refl _) (by decide) rfl)
theorem lit2' (w : World) (x : Nat) : WAt TW (w.alloc (.cells #[.int .u32 ((x : Int) % 4294967296), .int .u32 ((x : Int) / 4294967296)] TW)) (.slice (some ⟨w.heap.size, 0, none⟩) 2 2) [x % 4294967296, x / 4294967296] := by
  have := lit2 w (x % 4294967296) (x / 4294967296)
  rwa [show ((x % 4294967296 : Nat) : Int) = (x : Int) % 4294967296 by omega, show ((x / 4294967296 : Nat) : Int) = (x : Int) / 4294967296 by omega] at this
set_option maxRecDepth 100000 in
set_option maxHeartbeats 2000000 in
theorem setUint64_any (bz oz : Nat) (x : Nat) (w : World) (hz : ZAt TW w bz oz 2) (hx : x < 18446744073709551616) :
    Calls Try.prog 94 #[.pointer (some ⟨bz, oz, none⟩), .int .u64 (x : Int)] w (IntRet TW bz oz (x : Int) w) := by
  have hxI : (x : Int) < 18446744073709551616 := by omega
  have HZ := Lib.hid hz
  have HW := Lib.hid (lit2' w x)
  have hv : val [x % 4294967296, x / 4294967296] = x := by simp [val]; omega
  have ok : Ok [x % 4294967296, x / 4294967296] := .cons (by omega) (.cons (by omega) .nil)
  have HV := Lib.hid hv
  have OK := Lib.hid ok
  have HB0 := Lib.hid ((Below.refl w.heap.size w).alloc (Nat.le_refl _) (.cells #[.int .u32 ((x : Int) % 4294967296), .int .u32 ((x : Int) / 4294967296)] TW))
  clear hz hv ok
  go_enter Try.func94, Try.ntmps94
  go_wp2_with (first | (go_at_call 63; refine (trimmed_any _ [x % 4294967296, x / 4294967296] _ HW.out OK.out (by simp)).mono ?_; rintro e w1 ⟨v', l', rfl, hw1, ok1, nm1, hv1, hb1⟩; rw [HV.out] at hv1; have HW1 := Lib.hid hw1; have OK1 := Lib.hid ok1; have NM1 := Lib.hid nm1; have HV1 := Lib.hid hv1; have HB1 := Lib.hid (HB0.out.trans (hb1.mono (by simp))); clear hw1 ok1 nm1 hv1 hb1) | (go_at_call 31; refine (iput_any _ _ _ _ l' _ (HZ.out.below HB1.out) HW1.out OK1.out NM1.out (len_small NM1.out (by rw [HV1.out]; exact Nat.le_trans (blen_of_lt (k := 64) hx) (by omega)))).mono ?_; rintro e w2 ⟨rfl, hi2, hr2⟩; have HI2 := Lib.hid hi2; have HR2 := Lib.hid ((Wr.of_below _ _ _ HB1.out).trans hr2); clear hi2 hr2))
  go_ret
  refine ⟨rfl, ?_, HR2.out⟩
  have := HI2.out
  unfold sgn at this
  rw [HV1.out] at this
  exact this
set_option maxRecDepth 100000 in
set_option maxHeartbeats 2000000 in
theorem setInt64_any (bz oz : Nat) (x : Int) (w : World) (hz : ZAt TW w bz oz 2) (h1 : -9223372036854775808 ≤ x) (h2 : x < 9223372036854775808) :
    Calls Try.prog 64 #[.pointer (some ⟨bz, oz, none⟩), .int .i64 x] w (IntRet TW bz oz x w) := by
  have HZ := Lib.hid hz
  clear hz
  by_cases h0 : 0 ≤ x
  · obtain ⟨m, rfl⟩ : ∃ m : Nat, x = m := ⟨x.toNat, by omega⟩
    have hm : m < 18446744073709551616 := by omega
    go_enter Try.func64, Try.ntmps64
    go_wp2_with (go_at_call 94; refine (setUint64_any _ _ m _ HZ.out hm).mono ?_; rintro e w2 ⟨rfl, hi2, hr2⟩; have HI2 := Lib.hid hi2; have HR2 := Lib.hid hr2; clear hi2 hr2)
    go_ret
    exact ⟨rfl, HI2.out, HR2.out⟩
  · have h3 : x < 0 := by omega
    clear h0
    have hm : (-x).toNat < 18446744073709551616 := by omega
    have hme : (((-x).toNat : Nat) : Int) = -x := by omega
    have HM := Lib.hid hm
    have HME := Lib.hid hme
    clear hm hme
    go_enter Try.func64, Try.ntmps64
    go_wp2_with (go_at_call 94; rw [show -(x + 1) + 1 = (((-x).toNat : Nat) : Int) from by have := HME.out; omega]; refine (setUint64_any _ _ (-x).toNat _ HZ.out HM.out).mono ?_; rintro e w2 ⟨rfl, hi2, hr2⟩; have z2 := hi2.z; obtain ⟨u2, c2⟩ := z2.cell oz (by omega); have f2 := z2.frozen oz; rw [HME.out] at hi2; have HI2 := Lib.hid (hi2.turn (by omega)); have HR2 := Lib.hid (hr2.trans (Wr.set (o := oz) (.bool true) (Nat.le_refl _) (by omega))); clear hi2 hr2 z2)
    go_ret
    exact ⟨rfl, by have := HI2.out; rwa [Int.neg_neg] at this, HR2.out⟩
def IntNew (n : Int) (w : World) (e : Ending) (w' : World) : Prop := NewRet TW n w e w'
set_option maxRecDepth 100000 in
set_option maxHeartbeats 2000000 in
theorem newInt_any (x : Int) (w : World) (h1 : -9223372036854775808 ≤ x) (h2 : x < 9223372036854775808) :
    Calls Try.prog 35 #[.int .i64 x] w (NewRet TW x w) := by
  have HZ := Lib.hid (ZAt.new TW w #[.bool false, .slice none 0 0] 45 (by decide) 2 (by decide))
  have HB := Lib.hid ((Below.refl w.heap.size w).alloc (Nat.le_refl _) (.cells #[.bool false, .slice none 0 0] 45))
  have H1 := Lib.hid h1
  have H2 := Lib.hid h2
  clear h1 h2
  go_enter Try.func35, Try.ntmps35
  go_wp2_with (go_at_call 64; refine (setInt64_any _ _ x _ HZ.out H1.out H2.out).mono ?_; rintro e w2 ⟨rfl, hi2, hr2⟩; have HI2 := Lib.hid hi2; have HR2 := Lib.hid (HB.out.trans (hr2.below (Nat.le_refl _) (by simp))); clear hi2 hr2)
  go_ret
  exact ⟨_, rfl, Nat.le_refl _, HI2.out, HR2.out⟩
end Go.Proofs.Ytokmommlabdcdaa
namespace Go.Proofs.Ytokmommlabdcdaa
open Wd Fl Go.RowKit
set_option linter.unusedVariables false
set_option linter.unusedSimpArgs false
def cmpZ (n m : Int) : Int := if n < m then -1 else if m < n then 1 else 0
theorem cmpZ_pos (l m : List Nat) : cmpZ (sgn false l) (sgn false m) = cmpI (val l) (val m) := by
  unfold cmpZ cmpI sgn; simp only [Bool.false_eq_true, if_false]; (repeat' split) <;> omega
theorem cmpZ_neg (l m : List Nat) : cmpZ (sgn true l) (sgn true m) = cmpI (val m) (val l) := by
  unfold cmpZ cmpI sgn; simp only [if_true]; (repeat' split) <;> omega
theorem cmpZ_np {l m : List Nat} (nm : Nm l) (h : l ≠ []) : cmpZ (sgn true l) (sgn false m) = -1 := by
  have := nm.pos h
  unfold cmpZ sgn; simp only [if_true, Bool.false_eq_true, if_false]; rw [if_pos (by omega)]
theorem cmpZ_pn {l m : List Nat} (nm : Nm m) (h : m ≠ []) : cmpZ (sgn false l) (sgn true m) = 1 := by
  have := nm.pos h
  unfold cmpZ sgn; simp only [if_true, Bool.false_eq_true, if_false]; rw [if_neg (by omega), if_pos (by omega)]
set_option maxRecDepth 100000 in
set_option maxHeartbeats 4000000 in
theorem cmp_any (bx ox bY oY : Nat) (n m : Int) (w : World) (hx : IntAt TW w ⟨bx, ox, none⟩ n) (hy : IntAt TW w ⟨bY, oY, none⟩ m) (hn : bl n ≤ 100000) (hm : bl m ≤ 100000) :
    Calls Try.prog 19 #[.pointer (some ⟨bx, ox, none⟩), .pointer (some ⟨bY, oY, none⟩)] w fun e w' => e = .returned (.int .i64 (cmpZ n m)) ∧ Below w.heap.size w w' := by
  obtain ⟨neg, a, cap, l, h1, h2, H3, OK, NM, HN, HE, HK, N1⟩ := IntAt.open hx
  obtain ⟨neg2, a2, cap2, l2, h12, h22, H32, OK2, NM2, HN2, HE2, HK2, N12⟩ := IntAt.open hy
  have HL0 := Lib.hid (HK.out _ hn)
  have HL02 := Lib.hid (HK2.out _ hm)
  have hE := HE.out
  have hE2 := HE2.out
  have HLI : Hid (l.length ≤ 4611686018427387904) := Lib.hid (by have := HL0.out; omega)
  have HLI2 : Hid (l2.length ≤ 4611686018427387904) := Lib.hid (by have := HL02.out; omega)
  clear hx hy hn hm
  obtain ⟨c, hc⟩ : ∃ c, cmpZ n m = c := ⟨_, rfl⟩
  rw [hc]
  rw [hE, hE2] at hc
  cases neg <;> cases neg2
  · rw [cmpZ_pos] at hc
    have HC := Lib.hid hc
    clear hE hE2 hc
    go_enter Try.func19, Try.ntmps19
    go_wp2_with fail
    go_quiet (fail)
    go_wp2_with fail
    go_region_law (go_simp; go_at_call 33; refine (compare_any _ _ l l2 (w.drewN (nq + 1)) (H3.out.below (below_drewN (Below.refl _ w) (nq + 1))) (H32.out.below (below_drewN (Below.refl _ w) (nq + 1))) OK.out OK2.out NM.out NM2.out HLI.out HLI2.out).mono ?_; rintro e w5 ⟨rfl, hb5⟩; rw [HC.out]; have HB5 := Lib.hid ((below_drewN (Below.refl w.heap.size w) (nq + 1)).trans hb5); clear hb5)
    all_goals
      go_wp2_with fail
      go_ret
      exact ⟨rfl, HB5.out⟩
  · rw [cmpZ_pn NM2.out (HN2.out rfl)] at hc
    rw [← hc]
    clear hE hE2 hc
    go_enter Try.func19, Try.ntmps19
    go_wp2_with fail
    go_quiet (fail)
    go_wp2_with fail
    go_ret
    exact ⟨rfl, below_drewN (Below.refl _ w) _⟩
  · rw [cmpZ_np NM.out (HN.out rfl)] at hc
    rw [← hc]
    clear hE hE2 hc
    go_enter Try.func19, Try.ntmps19
    go_wp2_with fail
    go_quiet (fail)
    go_wp2_with fail
    go_ret
    exact ⟨rfl, below_drewN (Below.refl _ w) _⟩
  · rw [cmpZ_neg] at hc
    have HC := Lib.hid hc
    clear hE hE2 hc
    go_enter Try.func19, Try.ntmps19
    go_wp2_with fail
    go_quiet (fail)
    go_wp2_with fail
    go_region_law (go_simp; go_at_call 33; refine (compare_any _ _ l2 l (w.drewN (nq + 1)) (H32.out.below (below_drewN (Below.refl _ w) (nq + 1))) (H3.out.below (below_drewN (Below.refl _ w) (nq + 1))) OK2.out OK.out NM2.out NM.out HLI2.out HLI.out).mono ?_; rintro e w5 ⟨rfl, hb5⟩; rw [HC.out]; have HB5 := Lib.hid ((below_drewN (Below.refl w.heap.size w) (nq + 1)).trans hb5); clear hb5)
    all_goals
      go_wp2_with fail
      go_ret
      exact ⟨rfl, HB5.out⟩
set_option maxRecDepth 100000 in
set_option maxHeartbeats 4000000 in
theorem uint64_any (bx ox : Nat) (n : Int) (w : World) (hx : IntAt TW w ⟨bx, ox, none⟩ n) (hn : n.natAbs < 18446744073709551616) :
    Calls Try.prog 107 #[.pointer (some ⟨bx, ox, none⟩)] w fun e w' => e = .returned (.int .u64 (n.natAbs : Nat)) ∧ w = w' := by
  obtain ⟨neg, a, cap, l, h1, h2, H3, OK, NM, HN, HE, HK, N1⟩ := IntAt.open hx
  have e1 : n.natAbs = val l := by rw [HE.out, sgn_abs]
  rw [e1] at hn ⊢
  have hl : l.length ≤ 2 := length_le NM.out hn
  have ha := H3.out
  have oa := OK.out
  clear hx hn e1 OK NM HN HE HK H3 h1
  match l, hl with
  | [], _ =>
    simp only [List.length_nil] at h2
    clear ha oa
    go_enter Try.func107, Try.ntmps107
    go_wp2
    go_ret
    exact ⟨rfl, rfl⟩
  | [x], _ =>
    obtain ⟨_, b, off, rfl, hc, ht, hf⟩ := wcell ha (by simp)
    have hf0 := hf 0 (by simp)
    simp only [List.length_singleton, Nat.add_zero, List.getD_cons_zero] at hf0 hc h2
    have hx := oa x (by simp)
    have hxI : (x : Int) < 4294967296 := by omega
    have hcI : (1 : Int) ≤ (cap : Int) := by omega
    rw [val_single]
    clear ha oa hf ht hc hx
    go_enter Try.func107, Try.ntmps107
    go_wp2
    go_ret
    exact ⟨rfl, rfl⟩
  | [x, y], _ =>
    obtain ⟨_, b, off, rfl, hc, ht, hf⟩ := wcell ha (by simp)
    have hf0 := hf 0 (by simp)
    have hf1 := hf 1 (by simp)
    simp only [List.length_cons, List.length_nil, Nat.zero_add, Nat.add_zero, List.getD_cons_zero, List.getD_cons_succ] at hf0 hf1 hc h2
    have hx := oa x (by simp)
    have hy := oa y (by simp)
    have hxI : (x : Int) < 4294967296 := by omega
    have hyI : (y : Int) < 4294967296 := by omega
    have hcI : (2 : Int) ≤ (cap : Int) := by omega
    obtain ⟨v, hv⟩ : ∃ v, val [x, y] = v := ⟨_, rfl⟩
    have hv2 : v = x + 4294967296 * y := by rw [← hv]; simp [val]
    rw [hv]
    have HV := Lib.hid hv2
    have HX := Lib.hid hx
    have HY := Lib.hid hy
    clear ha oa hf ht hc hx hy hv hv2
    go_enter Try.func107, Try.ntmps107
    go_wp2
    go_ret
    refine ⟨ret_int ?_, rfl⟩
    have h := u64_or_nat x (y * 4294967296) (by have := HX.out; omega) (by have := HY.out; omega)
    rw [Int.natCast_mul] at h
    rw [show ((4294967296 : Nat) : Int) = 4294967296 from rfl] at h
    rw [h, Nat.or_comm, nat_join 32 _ _ (by omega) HX.out, HV.out]
    omega
end Go.Proofs.Ytokmommlabdcdaa
