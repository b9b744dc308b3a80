/- The walk of CpxSums. -/
import Derived.Test.YtokmommlabdcdaaGreatMRSum
set_option linter.unusedVariables false
set_option linter.unusedSimpArgs false
set_option linter.unusedVariables false
set_option linter.unusedSimpArgs false
namespace Go.Proofs.YtokmommlabdcdaaGreat
open Wd Fl Go.RowKit
def ordAt (o : Int) (k : Nat) : Int := if k = 0 ∨ k = 4 then o else (k : Int)
/-- the five orders, in block g -/
def Ords (w : World) (g : Nat) (o : Int) : Prop := ∀ k, k < 5 → w.cell? ⟨g, k, none⟩ = some (.int .i64 (ordAt o k))
theorem ords_new (w : World) (o : Int) : Ords (w.alloc (.cells #[.int .i64 o, .int .i64 1, .int .i64 2, .int .i64 3, .int .i64 o] 36)) w.heap.size o := fun k hk => by
  rw [cell_of_row _ _ _ _ _ _ (heap_alloc_new w _)]
  match k, hk with
  | 0, _ => rfl
  | 1, _ => rfl
  | 2, _ => rfl
  | 3, _ => rfl
  | 4, _ => rfl
set_option maxRecDepth 100000 in
set_option maxHeartbeats 8000000 in
theorem cpxSums_walk (bs : List Cpx) (v : Value) (order : Int) (w : World) (hv : BitsAt w v bs ∧ BitsOk bs) :
    Calls Tryz.prog 5 #[v, .int .i64 order] w fun e w' => e = .returned (.bool true) ∧ Below w.heap.size w w' := by
  have HV := Lib.hid hv
  have OK := Lib.hid (show Ok64 bs from hv.2.1)
  have HL := Lib.hid hv.2.2
  clear hv
  go_enter Tryz.func5, Tryz.ntmps5
  go_wp2_with fail
  refine (CpxAwake.awake_any _).mono ?_
  intro e w1 hh
  rcases hh with ⟨rfl, hb⟩
  have B1 := Lib.hid hb
  clear hb
  go_wp2_with fail
  refine (cs_sl2 bs v w1 (HV.out.1.below B1.out) HV.out.2).mono ?_
  intro e w2 hh
  rcases hh with ⟨u, rfl, hs, hb⟩
  have B2 := Lib.hid (B1.out.trans (hb.mono B1.out.size))
  have S2 := Lib.hid hs
  clear hb hs
  go_wp2_with fail
  obtain ⟨w3, hw3⟩ : ∃ W, w2.alloc (.cells #[.int .i64 order, .int .i64 1, .int .i64 2, .int .i64 3, .int .i64 order] 36) = W := ⟨_, rfl⟩
  have B3 := Lib.hid (show Below w.heap.size w w3 from hw3 ▸ bal B2.out)
  have S3 := Lib.hid (show Sl w3 u bs from hw3 ▸ S2.out.alloc _)
  have HO := Lib.hid (show Ords w3 w2.heap.size order from hw3 ▸ ords_new w2 order)
  have HG := Lib.hid (show w2.heap.size < w3.heap.size from by rw [← hw3, World.size_alloc]; omega)
  rw [hw3]
  clear hw3
  go_loopw [7, 8, 9, 10, 11, 12] (fun si s8 s9 s10 s11 s12 wr => ∃ k : Nat, k ≤ 5 ∧ si = .int .i64 (k : Int) ∧ Below w3.heap.size w3 wr) (fun si _ _ _ _ _ _ => 5 - (intOf si).toNat)
  case atStart => exact ⟨0, Nat.zero_le _, rfl, Below.refl _ _⟩
  case round =>
    obtain ⟨k, hk, rfl, hB⟩ := hrel
    have HK := Lib.hid hk
    have HB := Lib.hid hB
    clear hk hB
    by_cases hlt : k < 5
    · have hlt' : decide ((k : Int) < 5) = true := decide_eq_true (by omega)
      have hlt2 : (k : Int) < 5 := by omega
      have hw1 : IntKind.i64.wrap ((k : Int) + 1) = ((k + 1 : Nat) : Int) := by rw [show ((k + 1 : Nat) : Int) = (k : Int) + 1 by omega]; exact IntWalk.i64_in _ (by omega)
      obtain ⟨o, ho⟩ : ∃ o, ordAt order k = o := ⟨_, rfl⟩
      have HOK := Lib.hid (show ∀ W, Below w3.heap.size w3 W → W.cell? ⟨w2.heap.size, k, none⟩ = some (.int .i64 o) from fun W hW => (hW.cell (p := ⟨w2.heap.size, k, none⟩) HG.out).trans (ho ▸ HO.out k hlt))
      obtain ⟨c, hc⟩ : ∃ c, sumCode o = c := ⟨_, rfl⟩
      have CODE := Lib.hid hc
      have cc : (c == c) = true := beq_self_eq_true c
      clear ho hc
      go_wp2_with fail
      refine (lendNums_any bs u wr (S3.out.below HB.out) HL.out).mono ?_
      intro e wa hh
      rcases hh with ⟨g, cap, rfl, hl, hg, hb⟩
      have L1 := Lib.hid hl
      have G1 := Lib.hid (Nat.le_trans HB.out.size hg)
      have C1 := Lib.hid (HB.out.trans (hb.mono HB.out.size))
      have co := HOK.out _ C1.out
      clear hl hg hb
      go_wp2_with fail
      refine (csum_code bs _ o wa L1.out.sl (by have := HL.out; omega)).mono ?_
      intro e wb hh
      obtain ⟨x1, y1, he, hx, hb⟩ := hh
      subst he
      have X1 := Lib.hid hx
      have C2 := Lib.hid (C1.out.trans (hb.mono C1.out.size))
      have L2 := Lib.hid (L1.out.below hb)
      have co2 := HOK.out _ C2.out
      clear hx hb co
      rw [CODE.out]
      go_wp2_with fail
      refine (refsum_code bs u o wb (S3.out.below C2.out) (by have := HL.out; omega) OK.out).mono ?_
      intro e wc hh
      obtain ⟨x2, y2, he, hx, hb⟩ := hh
      subst he
      have X2 := Lib.hid hx
      have C3 := Lib.hid (C2.out.trans (hb.mono C2.out.size))
      have L3 := Lib.hid (L2.out.below hb)
      clear hx hb co2
      rw [CODE.out]
      go_wp2_with fail
      refine (keptNums_any bs u g cap wc L3.out (S3.out.below C3.out) HL.out).mono ?_
      intro e wd hh
      rcases hh with ⟨rfl, hw⟩
      have C4 := Lib.hid (C3.out.trans (hw.below G1.out C3.out.size))
      clear hw
      go_wp2_with fail
      refine (sameC_any _ _ _ _ _).mono ?_
      rintro e w' ⟨rfl, rfl⟩
      rw [two_sums X1.out X2.out]
      go_wp2_with fail
      refine (num_any _ _).mono ?_
      rintro e w' ⟨rfl, rfl⟩
      go_wp2_with fail
      go_roundw
      case rel => exact ⟨k + 1, by omega, rfl, C4.out⟩
      case measure => simp [intOf]; omega
    · obtain rfl : k = 5 := by have := HK.out; omega
      have z2 := same_self 0 0
      clear hlt
      go_wp2_with fail
      refine (csum_code [] _ 2 wr (.inl ⟨rfl, rfl⟩) (by decide)).mono ?_
      intro e wb hh
      obtain ⟨x1, y1, he, hx, hb⟩ := hh
      subst he
      obtain ⟨rfl, rfl⟩ : x1 = 0 ∧ y1 = 0 := by
        rcases hx with ⟨_, _, h⟩ | ⟨_, h⟩
        · rcases h with ⟨h, _⟩ | ⟨_, h⟩ | ⟨h, _⟩
          · exact absurd h (by decide)
          · exact h
          · exact absurd h (by decide)
        · exact h
      have C2 := Lib.hid (HB.out.trans (hb.mono HB.out.size))
      clear hx hb
      rw [show sumCode 2 = 0 from rfl]
      go_wp2_with fail
      refine (sameC_any _ _ _ _ _).mono ?_
      rintro e w' ⟨rfl, rfl⟩
      rw [z2]
      go_wp2_with fail
      refine (num_any _ _).mono ?_
      rintro e w' ⟨rfl, rfl⟩
      go_wp2_with fail
      go_ret
      exact ⟨rfl, B3.out.trans (C2.out.mono B3.out.size)⟩
end Go.Proofs.YtokmommlabdcdaaGreat
