/- The walk of surdlaw2.IeeeValues: for any word it answers true, where the library's two tables are as they were laid. -/
import Derived.Test.YtokmommlabdcdaaGreatDoorVVVal
import Derived.Test.YtokmommlabdcdaaGreatDoorVBig11
import Derived.Test.YtokmommlabdcdaaGreatDoorVDBase
import Derived.Deep.RegionHeld3
set_option linter.unusedVariables false
set_option linter.unusedSimpArgs false
set_option linter.unusedVariables false
set_option linter.unusedSimpArgs false
namespace Go.Proofs.YtokmommlabdcdaaGreatDoor
open Wd Fl Go.RowKit
theorem fv_any (a : Nat) (w : World) : Calls Tryz.prog 5 #[.int .u64 (a : Int)] w fun e w' => e = .returned (.float .f64 a) ∧ w = w' := by
  have := f_any (a : Int) w
  rwa [Int.toNat_natCast] at this
theorem dcell {w W : World} {b : Nat} {s : ByteArray} {e : Int} (h : w.heap[b]? = some (.cells #[.string s, .int .i64 e] 26 (0, 0))) (hb : Below w.heap.size w W) :
    W.cell? ⟨b, 0, none⟩ = some (.string s) ∧ W.cell? ⟨b, 1, none⟩ = some (.int .i64 e) := by
  have lt : b < w.heap.size := (Array.getElem?_eq_some_iff.1 h).1
  have hr : W.heap[b]? = some (.cells #[.string s, .int .i64 e] 26 (0, 0)) := (hb.block b lt).trans h
  exact ⟨by rw [cell_of_row _ _ _ _ _ _ hr]; rfl, by rw [cell_of_row _ _ _ _ _ _ hr]; rfl⟩
theorem cmpI_same (a : Nat) : cmpI a a = 0 := by unfold cmpI; rw [if_neg (Nat.lt_irrefl a), if_neg (Nat.lt_irrefl a)]
theorem sigI_neg (d : Int) : sigI (-d) = -(sigI d) := by
  unfold sigI; (repeat' split) <;> omega
theorem sigI_b (d : Int) : -1 ≤ sigI d ∧ sigI d ≤ 1 := by
  unfold sigI; (repeat' split) <;> omega
theorem den_small {q : Rat} (h : Dy 1080 q) : bl (q.den : Int) ≤ 1500 := by
  obtain ⟨i, hi, e⟩ := h.den
  rw [e]; unfold bl; rw [Int.natAbs_natCast, blen_pow]; omega
theorem bstep {w W W' : World} {n : Nat} (h : Below n w W) (hn : n ≤ W.heap.size) (hb : Below W.heap.size W W') : Below n w W' := h.trans (hb.mono hn)
set_option maxRecDepth 100000 in
set_option maxHeartbeats 4000000 in
theorem values_out (x : Nat) (hx : x < 2 ^ 64) (hf : ¬ fin x) (w : World) (hT : Tabs w) :
    Calls Tryz.prog 3 #[.int .u64 x] w fun e w' => e = .returned (.bool true) ∧ Below w.heap.size w w' := by
  have IE := Lib.hid (iexact_any x hx w hT)
  have II := Lib.hid (fun W => isInf0_any x hx W)
  have TB := Lib.hid hT
  have nf : Hid (¬ fin x) := Lib.hid hf
  have AW := Lib.hid (fun W (h : Below w.heap.size w W) => DAwake.awake_any W (TB.out.below h).cell)
  by_cases nx : isNan x
  · have f0 : (FloatKind.f64.format.order x x != some Ordering.eq) = true := by
      have : FloatKind.f64.format.order x x = none := order_none (.inl nx)
      rw [this]; rfl
    clear hx hf hT nx
    go_enter Tryz.func3, Tryz.ntmps3
    go_wp2_with fail
    refine (fv_any x _).mono ?_
    rintro e w' ⟨rfl, rfl⟩
    go_wp2_with fail
    refine IE.out.mono ?_
    rintro e w1 ⟨s, E, c, S, rfl, hb⟩
    have B1 := Lib.hid hb
    have S2 := ExS.unique S (.inl ⟨nf.out, rfl, rfl, rfl⟩)
    obtain ⟨rfl, rfl, rfl⟩ := S2
    clear S hb
    go_wp2_with fail
    refine (num_any 20 _).mono ?_
    rintro e w' ⟨rfl, rfl⟩
    go_wp2_with fail
    refine (AW.out _ (B1.out.alloc B1.out.size _)).mono ?_
    rintro e w2 ⟨rfl, hb⟩
    have B2 := Lib.hid (bstep (B1.out.alloc B1.out.size _) (B1.out.alloc B1.out.size _).size hb)
    clear hb
    go_wp2_with fail
    go_ret
    exact ⟨rfl, B2.out⟩
  · have f0 : (FloatKind.f64.format.order x x != some Ordering.eq) = false := by
      have o2 : FloatKind.f64.format.order x x = some (compare (iv x) (iv x)) := order_num nx nx
      rw [o2, Int.compare_eq_eq.2 rfl]; rfl
    have hI : rg x = INF := by unfold isNan at nx; unfold fin at hf; omega
    rw [decide_eq_true hI] at II
    clear hx hf hT nx hI
    go_enter Tryz.func3, Tryz.ntmps3
    go_wp2_with fail
    refine (fv_any x _).mono ?_
    rintro e w' ⟨rfl, rfl⟩
    go_wp2_with fail
    refine IE.out.mono ?_
    rintro e w1 ⟨s, E, c, S, rfl, hb⟩
    have B1 := Lib.hid hb
    have S2 := ExS.unique S (.inl ⟨nf.out, rfl, rfl, rfl⟩)
    obtain ⟨rfl, rfl, rfl⟩ := S2
    clear S hb
    go_wp2_with fail
    refine (II.out _).mono ?_
    rintro e w' ⟨rfl, rfl⟩
    go_wp2_with fail
    refine (num_any 20 _).mono ?_
    rintro e w' ⟨rfl, rfl⟩
    go_wp2_with fail
    refine (AW.out _ (B1.out.alloc B1.out.size _)).mono ?_
    rintro e w2 ⟨rfl, hb⟩
    have B2 := Lib.hid (bstep (B1.out.alloc B1.out.size _) (B1.out.alloc B1.out.size _).size hb)
    clear hb
    go_wp2_with fail
    go_ret
    exact ⟨rfl, B2.out⟩
section
variable {P : Program} {md : Region.Mode} {ops : Array Oper} {Q : Exit → Act → World → Prop} {S : World → Prop}
theorem at_0 {o : Oper} {l : List Oper} : (o :: l).toArray[0]? = some o := rfl
theorem at_S {o : Oper} {l : List Oper} {n : Nat} {r : Option Oper} (h : l.toArray[n]? = r) : (o :: l).toArray[n + 1]? = r := by
  rw [← h]; simp
/-- an operation is taken first, its slot given -/
theorem held_take {i d : Nat} {oi : Oper} {v : Value} {fuel : Nat} {listed : Array Bool} {a : Act} {w : World} (hi : ops[i]? = some oi) (hd : oi.dst = some d)
    (hs : Region.noSelect ops = true) (hf : Region.free md ops listed i = true) (hr : (Region.ready md ops listed).contains i = true)
    (hQ : ∀ c a w, Q (.panic c) (a.put (some d) v) w → Q (.panic c) a w) (hy : YieldsIf P ops S oi v a) (hS : S w)
    (h : wpAnyH P md ops Q S fuel (listed.setIfInBounds i true) (a.put (some d) v) w) : wpAnyH P md ops Q S (fuel + 1) listed a w := by
  rw [← hd] at hQ h
  exact wpAnyH_take hi hs hf hr hQ hy hS h
end
set_option maxRecDepth 100000 in
set_option maxHeartbeats 8000000 in
theorem values_fin (x : Nat) (hx : x < 2 ^ 64) (hf : fin x) (w : World) (hT : Tabs w) :
    Calls Tryz.prog 3 #[.int .u64 x] w fun e w' => e = .returned (.bool true) ∧ Below w.heap.size w w' := by
  have nx : ¬ isNan x := by unfold fin at hf; unfold isNan; omega
  have IE := Lib.hid (iexact_any x hx w hT)
  have IM := Lib.hid (fun W (h : Below w.heap.size w W) => iexact_any (neg x) (neg_lt x hx) W (hT.below h))
  have IX := Lib.hid (fun W (h : Below w.heap.size w W) => iexact_any (nxt x) (nxt_lt hx) W (hT.below h))
  have II := Lib.hid (fun W => isInf0_any x hx W)
  have hI : ¬ rg x = INF := by unfold fin at hf; omega
  rw [decide_eq_false hI] at II
  have HF : Hid (fin x) := Lib.hid hf
  have HX : Hid (x < 2 ^ 64) := Lib.hid hx
  have HFN : Hid (fin (neg x)) := Lib.hid (by unfold fin at *; rw [rg_neg x hx]; exact hf)
  have NE := Lib.hid (fun W => next_any x hx W)
  have SB := Lib.hid (fun W => signbit_any x hx W)
  have SI := Lib.hid (fun W => sign_any x hf W)
  have NI := Lib.hid (nxt_iv hf)
  have AW := Lib.hid (fun W (h : Below w.heap.size w W) => DAwake.awake_any W (hT.below h).cell)
  have hneg : ∀ w : World, (Op.unary .neg (.float .f64 x)).run Tryz.prog w = .ok (.float .f64 (neg x)) w := unary_neg x hx
  have f0 : (FloatKind.f64.format.order x x != some Ordering.eq) = false := by
    have o2 : FloatKind.f64.format.order x x = some (compare (iv x) (iv x)) := order_num nx nx
    rw [o2, Int.compare_eq_eq.2 rfl]; rfl
  have Z0 : Hid (rg x = 0 → (FloatKind.f64.format.order x 0 == some Ordering.eq) = true) := Lib.hid (fun h => by rw [order_zeroB]; unfold zeroB; exact decide_eq_true h)
  clear hx hf hT nx hI
  go_enter Tryz.func3, Tryz.ntmps3
  go_wp2_with fail
  refine (fv_any x _).mono ?_
  rintro e w' ⟨rfl, rfl⟩
  go_wp2_with fail
  refine IE.out.mono ?_
  rintro e w1 ⟨s, E, c, S, rfl, hb⟩
  obtain ⟨rfl, d, vl⟩ := vl_of HF.out S
  have V := Lib.hid vl
  have B0 := Lib.hid (hb.alloc hb.size (.cells #[.string s, .int .i64 E] 26))
  have HA := Lib.hid (heap_alloc_new w1 (.cells #[.string s, .int .i64 E] 26))
  have PA0 : Hid (Below (w1.alloc (.cells #[.string s, .int .i64 E] 26)).heap.size (w1.alloc (.cells #[.string s, .int .i64 E] 26)) (w1.alloc (.cells #[.string s, .int .i64 E] 26))) := Lib.hid (Below.refl _ _)
  have E1 : -1074 ≤ E := vl.lo
  have E2 : E ≤ 1023 := vl.hi
  have e1 : decide (E < -1074) = false := decide_eq_false (by omega)
  have e2 : decide (1023 < E) = false := decide_eq_false (by omega)
  have LT : Hid (d.natAbs < 2 ^ 53) := Lib.hid vl.lt
  have LT63 : Hid (d.natAbs < 9223372036854775808) := Lib.hid (by have := vl.lt; omega)
  have BL : Hid (bl d ≤ 53) := Lib.hid (by unfold bl; exact blen_le_of vl.lt)
  have bl1 : decide ((53 : Int) < (bl d : Int)) = false := decide_eq_false (by have := BL.out; omega)
  have IN : Hid (∀ W, Calls Tryz.prog 10 #[.string s] W (NewRet TW d W)) := Lib.hid (fun W => by rw [vl.txt]; exact int_any d W (by have := vl.lt; omega))
  have DV := Lib.hid (fun W => dyadV vl W)
  have LV := Lib.hid (fun W => ldexpV HX.out HF.out vl W)
  have SG := Lib.hid (sig_iv vl)
  rw [SG.out] at SI
  have DF : Hid (∀ W, Calls Tryz.prog 19 #[.agg #[.string s, .int .i64 E]] W (RNew (fv x) W)) := Lib.hid (fun W => by rw [vl.txt, ← vl_dyq vl]; exact dyadFrac_any d E W (by have := BL.out; omega) (by have := vl.lt; omega) (by omega) (by omega))
  clear S vl hb
  obtain ⟨A0, A1⟩ := dcell HA.out PA0.out

  go_wp2_with fail
  refine (II.out _).mono ?_
  rintro e w' ⟨rfl, rfl⟩
  go_wp2_with fail
  refine (IN.out _).mono ?_
  rintro e w2 ⟨bm, rfl, hle, hi, hb⟩
  have IM2 := Lib.hid hi
  have B1 := Lib.hid (bstep B0.out B0.out.size hb)
  have PA1 := Lib.hid (bstep PA0.out PA0.out.size hb)
  clear hle hi hb
  clear A0 A1
  obtain ⟨A0, A1⟩ := dcell HA.out PA1.out
  go_wp2_with fail
  refine (num_any 0 _).mono ?_
  rintro e w' ⟨rfl, rfl⟩
  go_wp2_with fail
  refine (DV.out _).mono ?_
  rintro e w3 ⟨rfl, hb⟩
  have IM3 := Lib.hid (IM2.out.below hb)
  have B2 := Lib.hid (bstep B1.out B1.out.size hb)
  have PA2 := Lib.hid (bstep PA1.out PA1.out.size hb)
  clear hb
  clear A0 A1
  obtain ⟨A0, A1⟩ := dcell HA.out PA2.out
  go_wp2_with fail
  refine (bitLen_any bm 0 d w3 IM3.out (by have := BL.out; omega)).mono ?_
  rintro e w4 ⟨rfl, hb⟩
  have IM4 := Lib.hid (IM3.out.below hb)
  have B3 := Lib.hid (bstep B2.out B2.out.size hb)
  have PA3 := Lib.hid (bstep PA2.out PA2.out.size hb)
  clear hb
  clear A0 A1
  obtain ⟨A0, A1⟩ := dcell HA.out PA3.out
  have IM4d := Lib.hid (vidr IM4.out)
  have D4 := Lib.hid ((Below.refl w4.heap.size w4).drew)
  obtain ⟨C0, C1⟩ := dcell HA.out (bstep PA3.out PA3.out.size D4.out)
  go_wp2_with fail
  go_region_law (first | (have hh := IM5.out; clear hh; go_simp; go_at_call 15; (with_reducible refine (isign_any bm 0 d w5 IM5.out (Nat.le_trans BL.out (by decide))).mono ?_); rintro e w' ⟨rfl, rfl⟩) | (have hh := IM5.out; clear hh; go_simp; go_at_call 16; (with_reducible refine (SI.out _).mono ?_); rintro e w' ⟨rfl, rfl⟩) | (go_simp; go_at_call 14; (with_reducible refine (int64_any bm 0 d _ IM4d.out LT63.out).mono ?_); rintro e w' ⟨rfl, rfl⟩) | (go_simp; go_at_call 13; (with_reducible refine (LV.out _).mono ?_); rintro e w5 ⟨y, rfl, hy, hb⟩; have IM5 := Lib.hid (IM4d.out.below hb); have B4 := Lib.hid (bstep (B3.out.drew) (B3.out.drew).size hb); have PA4 := Lib.hid (bstep (PA3.out.drew) (PA3.out.drew).size hb); clear hb))

  clear C0 C1
  clear A0 A1
  obtain ⟨A0, A1⟩ := dcell HA.out PA4.out
  all_goals
    go_wp2_with fail
    refine (IM.out _ B4.out).mono ?_
    rintro e w6 ⟨s2, E', c2, S, rfl, hb⟩
    obtain ⟨rfl, d2, vl2⟩ := vl_of HFN.out S
    obtain ⟨hE2, hd2⟩ := vl_neg HX.out V.out vl2
    subst hd2
    have IN2 : Hid (∀ W, Calls Tryz.prog 10 #[.string s2] W (NewRet TW (-d) W)) := Lib.hid (fun W => by rw [vl2.txt]; exact int_any (-d) W (by have := vl2.lt; omega))
    have IM6 := Lib.hid (IM5.out.below hb)
    rw [hE2]
    clear S vl2 hE2
    have B5 := Lib.hid (bstep B4.out B4.out.size hb)
    have PA5 := Lib.hid (bstep PA4.out PA4.out.size hb)
    clear hb
    have HBr := Lib.hid (heap_alloc_new w6 (.cells #[.string s2, .int .i64 E] 26))
    have B6 := Lib.hid (bstep B5.out B5.out.size ((Below.refl w6.heap.size w6).alloc (Nat.le_refl _) (.cells #[.string s2, .int .i64 E] 26)))
    have PA6 := Lib.hid (bstep PA5.out PA5.out.size ((Below.refl w6.heap.size w6).alloc (Nat.le_refl _) (.cells #[.string s2, .int .i64 E] 26)))
    have IM7 := Lib.hid (vial (c := .cells #[.string s2, .int .i64 E] 26) IM6.out)
    clear A0 A1
    obtain ⟨A0, A1⟩ := dcell HA.out PA6.out
    obtain ⟨b0, b1⟩ := dcell HBr.out (Below.refl _ _)
    go_wp2_with fail
    refine (NE.out _).mono ?_
    rintro e w' ⟨rfl, rfl⟩
    go_wp2_with fail
    refine (IX.out _ B6.out).mono ?_
    rintro e w7 ⟨s3, E3, c3, S3, rfl, hb⟩
    have S3H := Lib.hid S3
    have IM8 := Lib.hid (IM7.out.below hb)
    have B7 := Lib.hid (bstep B6.out B6.out.size hb)
    have PA7 := Lib.hid (bstep PA6.out PA6.out.size hb)
    have PB7 := Lib.hid hb
    clear hb S3 A0 A1 b0 b1
    have BU := Lib.hid ((Below.refl w7.heap.size w7).alloc (Nat.le_refl _) (.cells #[.string s3, .int .i64 E3] 26))
    have HU := Lib.hid (heap_alloc_new w7 (.cells #[.string s3, .int .i64 E3] 26))
    have B8 := Lib.hid (bstep B7.out B7.out.size BU.out)
    have PA8 := Lib.hid (bstep PA7.out PA7.out.size BU.out)
    have PB8 := Lib.hid (bstep PB7.out PB7.out.size BU.out)
    have IM9 := Lib.hid (vial (c := .cells #[.string s3, .int .i64 E3] 26) IM8.out)
    obtain ⟨A0, A1⟩ := dcell HA.out PA8.out
    obtain ⟨b0, b1⟩ := dcell HBr.out PB8.out
    go_wp2_with fail
    refine (num_any 0 _).mono ?_
    rintro e w' ⟨rfl, rfl⟩
    go_wp2_with fail
    refine (IN2.out _).mono ?_
    rintro e w8 ⟨bn, rfl, hle, hi, hb⟩
    have IB8 := Lib.hid hi
    have IM10 := Lib.hid (IM9.out.below hb)
    have B9 := Lib.hid (bstep B8.out B8.out.size hb)
    have PA9 := Lib.hid (bstep PA8.out PA8.out.size hb)
    have PB9 := Lib.hid (bstep PB8.out PB8.out.size hb)
    have PU9 := Lib.hid hb
    clear hle hi hb A0 A1 b0 b1
    obtain ⟨A0, A1⟩ := dcell HA.out PA9.out
    obtain ⟨b0, b1⟩ := dcell HBr.out PB9.out
    have BLN : Hid (bl (-d) ≤ 100000) := Lib.hid (by unfold bl; rw [Int.natAbs_neg]; have := BL.out; unfold bl at this; omega)
    have CZ : Hid (cmpI (-d).natAbs d.natAbs = 0) := Lib.hid (by rw [Int.natAbs_neg]; exact cmpI_same _)
    go_wp2_with fail
    refine (cmpAbs_any bn 0 bm 0 (-d) d w8 IB8.out IM10.out BLN.out (Nat.le_trans BL.out (by decide))).mono ?_
    rintro e w9 ⟨rfl, hb⟩
    rw [CZ.out]
    have IM11 := Lib.hid (IM10.out.below hb)
    have B10 := Lib.hid (bstep B9.out B9.out.size hb)
    have PA10 := Lib.hid (bstep PA9.out PA9.out.size hb)
    have PB10 := Lib.hid (bstep PB9.out PB9.out.size hb)
    have PU10 := Lib.hid (bstep PU9.out PU9.out.size hb)
    clear hb A0 A1 b0 b1
    obtain ⟨A0, A1⟩ := dcell HA.out PA10.out
    obtain ⟨b0, b1⟩ := dcell HBr.out PB10.out
    go_wp2_with fail
    refine (IN2.out _).mono ?_
    rintro e w10 ⟨bk, rfl, hle, hi, hb⟩
    have IK := Lib.hid hi
    have IM12 := Lib.hid (IM11.out.below hb)
    have B11 := Lib.hid (bstep B10.out B10.out.size hb)
    have PA11 := Lib.hid (bstep PA10.out PA10.out.size hb)
    have PU11 := Lib.hid (bstep PU10.out PU10.out.size hb)
    clear hle hi hb A0 A1 b0 b1
    have sn : sigI (-d) = -(sigI d) := sigI_neg d
    go_wp2_with fail
    refine (isign_any bk 0 (-d) w10 IK.out BLN.out).mono ?_
    rintro e w' ⟨rfl, rfl⟩
    go_wp2_with fail
    refine (isign_any bm 0 d w10 IM12.out (Nat.le_trans BL.out (by decide))).mono ?_
    rintro e w' ⟨rfl, rfl⟩
    (try rw [sn])
    obtain ⟨sd, hsd⟩ : ∃ sd, sigI d = sd := ⟨_, rfl⟩
    have sdb : -1 ≤ sd ∧ sd ≤ 1 := by rw [← hsd]; exact sigI_b d
    rw [hsd]
    obtain ⟨sd1, sd2⟩ := sdb
    clear hsd sn
    go_wp2_with fail
    have D10 := Lib.hid ((Below.refl w10.heap.size w10).drew)
    have BD := Lib.hid B11.out.drew
    have PUd := Lib.hid PU11.out.drew
    obtain ⟨A0, A1⟩ := dcell HA.out (bstep PA11.out PA11.out.size D10.out)
    obtain ⟨U0, U1⟩ := dcell HU.out PUd.out
    clear A0 A1 U0 U1
    have QA := Lib.hid (bstep PA11.out PA11.out.size D10.out)
    have SS : Hid (∀ W, Below w10.heap.size w10 W → (W.cell? ⟨w1.heap.size, 0, none⟩ = some (.string s) ∧ W.cell? ⟨w1.heap.size, 1, none⟩ = some (.int .i64 E) ∧ W.cell? ⟨w7.heap.size, 0, none⟩ = some (.string s3) ∧ W.cell? ⟨w7.heap.size, 1, none⟩ = some (.int .i64 E3))) := Lib.hid (fun W h => ⟨(dcell HA.out (bstep PA11.out PA11.out.size h)).1, (dcell HA.out (bstep PA11.out PA11.out.size h)).2, (dcell HU.out (bstep PU11.out PU11.out.size h)).1, (dcell HU.out (bstep PU11.out PU11.out.size h)).2⟩)
    clear BU HBr HA HU PA0 PA1 PA2 PA3 PA4 PA5 PA6 PA7 PA8 PA9 PA10 PA11 PB7 PB8 PB9 PB10 PU9 PU10 PU11 PUd QA IM2 IM3 IM4 IM4d IM5 IM6 IM7 IM8 IM9 IM10 IM11 IM12 B0 B1 B2 B3 B4 B5 B6 B7 B8 B9 B10 IK IB8 BLN CZ IN2 DV LV IE IM IX II NE hneg
    by_cases hfn : fin (nxt x)
    · obtain ⟨rfl, d3, vl3⟩ := vl_of hfn S3H.out
      have DF3 : Hid (∀ W, Calls Tryz.prog 19 #[.agg #[.string s3, .int .i64 E3]] W (RNew (fv (nxt x)) W)) := Lib.hid (fun W => by rw [vl3.txt, ← vl_dyq vl3]; exact dyadFrac_any d3 E3 W (by have := vl3.lt; have : bl d3 ≤ 53 := (by unfold bl; exact blen_le_of vl3.lt); omega) (by have := vl3.lt; omega) (by have := vl3.lo; omega) (by have := vl3.hi; omega))
      have NB : Hid (bl (fv x).num ≤ 1500) := Lib.hid (Nat.le_trans (Dy.fv HF.out).num (by decide))
      have NB3 : Hid (bl (fv (nxt x)).num ≤ 1500) := Lib.hid (Nat.le_trans (Dy.fv hfn).num (by decide))
      have DB : Hid (bl ((fv x).den : Int) ≤ 1500) := Lib.hid (den_small (Dy.fv HF.out))
      have DB3 : Hid (bl ((fv (nxt x)).den : Int) ≤ 1500) := Lib.hid (den_small (Dy.fv hfn))
      obtain ⟨c, hc⟩ : ∃ c, cmpQ (fv x) (fv (nxt x)) = c := ⟨_, rfl⟩
      have HC := Lib.hid hc
      have CC : Hid (c < 0 ∨ (rg x = 0 ∧ sg x = true)) := Lib.hid (by
        rcases NI.out with q | q
        · left; rw [← hc, cmpQ_lt q]; decide
        · exact .inr q)
      clear vl3 hc hfn
      by_cases c0 : c < 0
      · have cd : decide (c < 0) = true := decide_eq_true c0
        clear c0
        refine wp_region_held_drew (S := (fun W => W.cell? ⟨w1.heap.size, 0, none⟩ = some (.string s) ∧ W.cell? ⟨w1.heap.size, 1, none⟩ = some (.int .i64 E) ∧ W.cell? ⟨w7.heap.size, 0, none⟩ = some (.string s3) ∧ W.cell? ⟨w7.heap.size, 1, none⟩ = some (.int .i64 E3))) (by kernel_rfl) (SS.out _ D10.out) (fun hHeld => ?_)
        refine held_take (i := 0) (d := 117) (v := .int .i64 0) at_0 rfl (by kernel_rfl) (by kernel_rfl) (by kernel_rfl) (fun _ _ _ h => h) (Or.inl ⟨by rfl, ?_⟩) hHeld ?_
        · (intro w hSw; (try dsimp only at hSw); go_simp)
        try simp only [Act.put, List.setIfInBounds_toArray, List.set_cons_zero, List.set_cons_succ]
        refine wpAnyH_ready (rs := [1]) (by kernel_rfl) (by simp) ?_
        refine AllReadyH.cons (at_S at_0) (fun K hK => ?_) AllReadyH.nil
        go_simp
        refine (num_any 0 _).mono ?_
        rintro e w' ⟨rfl, rfl⟩
        go_wp2_with fail
        refine hK.out _ _ (SS.out _ D10.out) (fun hHeld => ?_)
        clear hK K
        try simp only [Act.put, List.setIfInBounds_toArray, List.set_cons_zero, List.set_cons_succ]
        refine held_take (i := 2) (d := 119) (v := .bool false) (at_S (at_S at_0)) rfl (by kernel_rfl) (by kernel_rfl) (by kernel_rfl) (fun _ _ _ h => h) (Or.inl ⟨by rfl, ?_⟩) hHeld ?_
        · (intro w hSw; (try dsimp only at hSw); go_simp)
        try simp only [Act.put, List.setIfInBounds_toArray, List.set_cons_zero, List.set_cons_succ]
        refine held_take (i := 3) (d := 120) (v := .bool false) (at_S (at_S (at_S at_0))) rfl (by kernel_rfl) (by kernel_rfl) (by kernel_rfl) (fun _ _ _ h => h) (Or.inl ⟨by rfl, ?_⟩) hHeld ?_
        · (intro w hSw; (try dsimp only at hSw); go_simp)
        try simp only [Act.put, List.setIfInBounds_toArray, List.set_cons_zero, List.set_cons_succ]
        refine held_take (i := 4) (d := 121) (v := .agg #[.string s, .int .i64 E]) (at_S (at_S (at_S (at_S at_0)))) rfl (by kernel_rfl) (by kernel_rfl) (by kernel_rfl) (fun _ _ _ h => h) (Or.inl ⟨by rfl, ?_⟩) hHeld ?_
        · (intro w hSw; (try dsimp only at hSw); go_simp)
        try simp only [Act.put, List.setIfInBounds_toArray, List.set_cons_zero, List.set_cons_succ]
        refine held_take (i := 6) (d := 123) (v := .agg #[.string s3, .int .i64 E3]) (at_S (at_S (at_S (at_S (at_S (at_S at_0)))))) rfl (by kernel_rfl) (by kernel_rfl) (by kernel_rfl) (fun _ _ _ h => h) (Or.inl ⟨by rfl, ?_⟩) hHeld ?_
        · (intro w hSw; (try dsimp only at hSw); go_simp)
        try simp only [Act.put, List.setIfInBounds_toArray, List.set_cons_zero, List.set_cons_succ]
        refine wpAnyH_ready (rs := [5]) (by kernel_rfl) (by simp) ?_
        refine AllReadyH.cons (at_S (at_S (at_S (at_S (at_S at_0))))) (fun K hK => ?_) AllReadyH.nil
        go_simp
        refine (DF.out _).mono ?_
        rintro e w12 ⟨ba, rfl, hra, hle, hb⟩
        have RA := Lib.hid hra
        have B12 : Hid (Below w.heap.size w w12) := Lib.hid (bstep BD.out BD.out.size hb)
        have C12 : Hid (Below w10.heap.size w10 w12) := Lib.hid (bstep D10.out D10.out.size hb)
        clear hra hle hb
        go_wp2_with fail
        refine hK.out _ _ (SS.out _ C12.out) (fun hHeld => ?_)
        clear hK K
        try simp only [Act.put, List.setIfInBounds_toArray, List.set_cons_zero, List.set_cons_succ]
        refine wpAnyH_ready (rs := [7]) (by kernel_rfl) (by simp) ?_
        refine AllReadyH.cons (at_S (at_S (at_S (at_S (at_S (at_S (at_S at_0))))))) (fun K hK => ?_) AllReadyH.nil
        go_simp
        refine (DF3.out _).mono ?_
        rintro e w13 ⟨bu, rfl, hra, hle, hb⟩
        have RU := Lib.hid hra
        have RA2 := Lib.hid (RA.out.below hb)
        have B13 : Hid (Below w.heap.size w w13) := Lib.hid (bstep B12.out B12.out.size hb)
        have C13 : Hid (Below w10.heap.size w10 w13) := Lib.hid (bstep C12.out C12.out.size hb)
        clear hra hle hb
        go_wp2_with fail
        refine hK.out _ _ (SS.out _ C13.out) (fun hHeld => ?_)
        clear hK K
        try simp only [Act.put, List.setIfInBounds_toArray, List.set_cons_zero, List.set_cons_succ]
        refine wpAnyH_ready (rs := [8]) (by kernel_rfl) (by simp) ?_
        refine AllReadyH.cons (at_S (at_S (at_S (at_S (at_S (at_S (at_S (at_S at_0)))))))) (fun K hK => ?_) AllReadyH.nil
        go_simp
        refine (rcmp_any ba bu (fv x) (fv (nxt x)) w13 RA2.out RU.out NB.out NB3.out DB.out DB3.out).mono ?_
        rintro e w14 ⟨rfl, hb⟩
        rw [HC.out]
        have B14 : Hid (Below w.heap.size w w14) := Lib.hid (bstep B13.out B13.out.size hb)
        have C14 : Hid (Below w10.heap.size w10 w14) := Lib.hid (bstep C13.out C13.out.size hb)
        clear hb
        go_wp2_with fail
        refine hK.out _ _ (SS.out _ C14.out) (fun hHeld => ?_)
        clear hK K
        try simp only [Act.put, List.setIfInBounds_toArray, List.set_cons_zero, List.set_cons_succ]
        refine held_take (i := 9) (d := 126) (v := .bool true) (at_S (at_S (at_S (at_S (at_S (at_S (at_S (at_S (at_S at_0))))))))) rfl (by kernel_rfl) (by kernel_rfl) (by kernel_rfl) (fun _ _ _ h => h) (Or.inl ⟨by rfl, ?_⟩) hHeld ?_
        · (intro w hSw; (try dsimp only at hSw); go_simp)
        try simp only [Act.put, List.setIfInBounds_toArray, List.set_cons_zero, List.set_cons_succ]
        refine held_take (i := 10) (d := 127) (v := .bool true) (at_S (at_S (at_S (at_S (at_S (at_S (at_S (at_S (at_S (at_S at_0)))))))))) rfl (by kernel_rfl) (by kernel_rfl) (by kernel_rfl) (fun _ _ _ h => h) (Or.inl ⟨by rfl, ?_⟩) hHeld ?_
        · (intro w hSw; (try dsimp only at hSw); go_simp)
        try simp only [Act.put, List.setIfInBounds_toArray, List.set_cons_zero, List.set_cons_succ]
        refine held_take (i := 11) (d := 128) (v := .bool true) (at_S (at_S (at_S (at_S (at_S (at_S (at_S (at_S (at_S (at_S (at_S at_0))))))))))) rfl (by kernel_rfl) (by kernel_rfl) (by kernel_rfl) (fun _ _ _ h => h) (Or.inl ⟨by rfl, ?_⟩) hHeld ?_
        · (intro w hSw; (try dsimp only at hSw); go_simp)
        try simp only [Act.put, List.setIfInBounds_toArray, List.set_cons_zero, List.set_cons_succ]
        refine held_take (i := 12) (d := 129) (at_S (at_S (at_S (at_S (at_S (at_S (at_S (at_S (at_S (at_S (at_S (at_S at_0)))))))))))) rfl (by kernel_rfl) (by kernel_rfl) (by kernel_rfl) (fun _ _ _ h => h) (Or.inr ⟨by rfl, rfl⟩) hHeld ?_
        try simp only [Act.put, List.setIfInBounds_toArray, List.set_cons_zero, List.set_cons_succ]
        refine held_take (i := 13) (d := 130) (at_S (at_S (at_S (at_S (at_S (at_S (at_S (at_S (at_S (at_S (at_S (at_S (at_S at_0))))))))))))) rfl (by kernel_rfl) (by kernel_rfl) (by kernel_rfl) (fun _ _ _ h => h) (Or.inr ⟨by rfl, rfl⟩) hHeld ?_
        try simp only [Act.put, List.setIfInBounds_toArray, List.set_cons_zero, List.set_cons_succ]
        refine held_take (i := 14) (d := 131) (at_S (at_S (at_S (at_S (at_S (at_S (at_S (at_S (at_S (at_S (at_S (at_S (at_S (at_S at_0)))))))))))))) rfl (by kernel_rfl) (by kernel_rfl) (by kernel_rfl) (fun _ _ _ h => h) (Or.inr ⟨by rfl, rfl⟩) hHeld ?_
        try simp only [Act.put, List.setIfInBounds_toArray, List.set_cons_zero, List.set_cons_succ]
        refine held_take (i := 15) (d := 132) (at_S (at_S (at_S (at_S (at_S (at_S (at_S (at_S (at_S (at_S (at_S (at_S (at_S (at_S (at_S at_0))))))))))))))) rfl (by kernel_rfl) (by kernel_rfl) (by kernel_rfl) (fun _ _ _ h => h) (Or.inr ⟨by rfl, rfl⟩) hHeld ?_
        try simp only [Act.put, List.setIfInBounds_toArray, List.set_cons_zero, List.set_cons_succ]
        refine held_take (i := 16) (d := 133) (at_S (at_S (at_S (at_S (at_S (at_S (at_S (at_S (at_S (at_S (at_S (at_S (at_S (at_S (at_S (at_S at_0)))))))))))))))) rfl (by kernel_rfl) (by kernel_rfl) (by kernel_rfl) (fun _ _ _ h => h) (Or.inr ⟨by rfl, rfl⟩) hHeld ?_
        try simp only [Act.put, List.setIfInBounds_toArray, List.set_cons_zero, List.set_cons_succ]
        refine held_take (i := 17) (d := 134) (at_S (at_S (at_S (at_S (at_S (at_S (at_S (at_S (at_S (at_S (at_S (at_S (at_S (at_S (at_S (at_S (at_S at_0))))))))))))))))) rfl (by kernel_rfl) (by kernel_rfl) (by kernel_rfl) (fun _ _ _ h => h) (Or.inr ⟨by rfl, rfl⟩) hHeld ?_
        try simp only [Act.put, List.setIfInBounds_toArray, List.set_cons_zero, List.set_cons_succ]
        refine held_take (i := 18) (d := 135) (v := .bool true) (at_S (at_S (at_S (at_S (at_S (at_S (at_S (at_S (at_S (at_S (at_S (at_S (at_S (at_S (at_S (at_S (at_S (at_S at_0)))))))))))))))))) rfl (by kernel_rfl) (by kernel_rfl) (by kernel_rfl) (fun _ _ _ h => h) (Or.inl ⟨by rfl, ?_⟩) hHeld ?_
        · (intro w hSw; (try dsimp only at hSw); go_simp)
        try simp only [Act.put, List.setIfInBounds_toArray, List.set_cons_zero, List.set_cons_succ]
        refine held_take (i := 19) (d := 136) (v := .bool true) (at_S (at_S (at_S (at_S (at_S (at_S (at_S (at_S (at_S (at_S (at_S (at_S (at_S (at_S (at_S (at_S (at_S (at_S (at_S at_0))))))))))))))))))) rfl (by kernel_rfl) (by kernel_rfl) (by kernel_rfl) (fun _ _ _ h => h) (Or.inl ⟨by rfl, ?_⟩) hHeld ?_
        · (intro w hSw; (try dsimp only at hSw); go_simp)
        try simp only [Act.put, List.setIfInBounds_toArray, List.set_cons_zero, List.set_cons_succ]
        refine wpAnyH_ready (rs := [20]) (by kernel_rfl) (by simp) ?_
        refine AllReadyH.cons (at_S (at_S (at_S (at_S (at_S (at_S (at_S (at_S (at_S (at_S (at_S (at_S (at_S (at_S (at_S (at_S (at_S (at_S (at_S (at_S at_0)))))))))))))))))))) (fun K hK => ?_) AllReadyH.nil
        go_simp
        refine (AW.out _ B14.out).mono ?_
        rintro e w15 ⟨rfl, hb⟩
        have BZ : Hid (Below w.heap.size w w15) := Lib.hid (bstep B14.out (B14.out).size hb)
        have C15 : Hid (Below w10.heap.size w10 w15) := Lib.hid (bstep C14.out C14.out.size hb)
        clear hb
        go_wp2_with fail
        refine hK.out _ _ (SS.out _ C15.out) (fun hHeld => ?_)
        clear hK K
        try simp only [Act.put, List.setIfInBounds_toArray, List.set_cons_zero, List.set_cons_succ]
        refine held_take (i := 21) (d := 138) (v := .bool true) (at_S (at_S (at_S (at_S (at_S (at_S (at_S (at_S (at_S (at_S (at_S (at_S (at_S (at_S (at_S (at_S (at_S (at_S (at_S (at_S (at_S at_0))))))))))))))))))))) rfl (by kernel_rfl) (by kernel_rfl) (by kernel_rfl) (fun _ _ _ h => h) (Or.inl ⟨by rfl, ?_⟩) hHeld ?_
        · (intro w hSw; (try dsimp only at hSw); go_simp)
        try simp only [Act.put, List.setIfInBounds_toArray, List.set_cons_zero, List.set_cons_succ]
        refine held_take (i := 22) (d := 2) (v := .bool true) (at_S (at_S (at_S (at_S (at_S (at_S (at_S (at_S (at_S (at_S (at_S (at_S (at_S (at_S (at_S (at_S (at_S (at_S (at_S (at_S (at_S (at_S at_0)))))))))))))))))))))) rfl (by kernel_rfl) (by kernel_rfl) (by kernel_rfl) (fun _ _ _ h => h) (Or.inl ⟨by rfl, ?_⟩) hHeld ?_
        · (intro w hSw; (try dsimp only at hSw); go_simp)
        try simp only [Act.put, List.setIfInBounds_toArray, List.set_cons_zero, List.set_cons_succ]
        refine wpAnyH_done (by kernel_rfl) ?_ _
        go_wp2_with fail
        go_ret
        exact ⟨rfl, BZ.out⟩
      · have cd : decide (c < 0) = false := decide_eq_false c0
        have zz : rg x = 0 ∧ sg x = true := CC.out.resolve_left c0
        have z0 := Z0.out zz.1
        rw [zz.2] at SB
        clear c0 zz
        refine wp_region_held_drew (S := (fun W => W.cell? ⟨w1.heap.size, 0, none⟩ = some (.string s) ∧ W.cell? ⟨w1.heap.size, 1, none⟩ = some (.int .i64 E) ∧ W.cell? ⟨w7.heap.size, 0, none⟩ = some (.string s3) ∧ W.cell? ⟨w7.heap.size, 1, none⟩ = some (.int .i64 E3))) (by kernel_rfl) (SS.out _ D10.out) (fun hHeld => ?_)
        refine held_take (i := 0) (d := 117) (v := .int .i64 0) at_0 rfl (by kernel_rfl) (by kernel_rfl) (by kernel_rfl) (fun _ _ _ h => h) (Or.inl ⟨by rfl, ?_⟩) hHeld ?_
        · (intro w hSw; (try dsimp only at hSw); go_simp)
        try simp only [Act.put, List.setIfInBounds_toArray, List.set_cons_zero, List.set_cons_succ]
        refine wpAnyH_ready (rs := [1]) (by kernel_rfl) (by simp) ?_
        refine AllReadyH.cons (at_S at_0) (fun K hK => ?_) AllReadyH.nil
        go_simp
        refine (num_any 0 _).mono ?_
        rintro e w' ⟨rfl, rfl⟩
        go_wp2_with fail
        refine hK.out _ _ (SS.out _ D10.out) (fun hHeld => ?_)
        clear hK K
        try simp only [Act.put, List.setIfInBounds_toArray, List.set_cons_zero, List.set_cons_succ]
        refine held_take (i := 2) (d := 119) (v := .bool false) (at_S (at_S at_0)) rfl (by kernel_rfl) (by kernel_rfl) (by kernel_rfl) (fun _ _ _ h => h) (Or.inl ⟨by rfl, ?_⟩) hHeld ?_
        · (intro w hSw; (try dsimp only at hSw); go_simp)
        try simp only [Act.put, List.setIfInBounds_toArray, List.set_cons_zero, List.set_cons_succ]
        refine held_take (i := 3) (d := 120) (v := .bool false) (at_S (at_S (at_S at_0))) rfl (by kernel_rfl) (by kernel_rfl) (by kernel_rfl) (fun _ _ _ h => h) (Or.inl ⟨by rfl, ?_⟩) hHeld ?_
        · (intro w hSw; (try dsimp only at hSw); go_simp)
        try simp only [Act.put, List.setIfInBounds_toArray, List.set_cons_zero, List.set_cons_succ]
        refine held_take (i := 4) (d := 121) (v := .agg #[.string s, .int .i64 E]) (at_S (at_S (at_S (at_S at_0)))) rfl (by kernel_rfl) (by kernel_rfl) (by kernel_rfl) (fun _ _ _ h => h) (Or.inl ⟨by rfl, ?_⟩) hHeld ?_
        · (intro w hSw; (try dsimp only at hSw); go_simp)
        try simp only [Act.put, List.setIfInBounds_toArray, List.set_cons_zero, List.set_cons_succ]
        refine held_take (i := 6) (d := 123) (v := .agg #[.string s3, .int .i64 E3]) (at_S (at_S (at_S (at_S (at_S (at_S at_0)))))) rfl (by kernel_rfl) (by kernel_rfl) (by kernel_rfl) (fun _ _ _ h => h) (Or.inl ⟨by rfl, ?_⟩) hHeld ?_
        · (intro w hSw; (try dsimp only at hSw); go_simp)
        try simp only [Act.put, List.setIfInBounds_toArray, List.set_cons_zero, List.set_cons_succ]
        refine wpAnyH_ready (rs := [5]) (by kernel_rfl) (by simp) ?_
        refine AllReadyH.cons (at_S (at_S (at_S (at_S (at_S at_0))))) (fun K hK => ?_) AllReadyH.nil
        go_simp
        refine (DF.out _).mono ?_
        rintro e w12 ⟨ba, rfl, hra, hle, hb⟩
        have RA := Lib.hid hra
        have B12 : Hid (Below w.heap.size w w12) := Lib.hid (bstep BD.out BD.out.size hb)
        have C12 : Hid (Below w10.heap.size w10 w12) := Lib.hid (bstep D10.out D10.out.size hb)
        clear hra hle hb
        go_wp2_with fail
        refine hK.out _ _ (SS.out _ C12.out) (fun hHeld => ?_)
        clear hK K
        try simp only [Act.put, List.setIfInBounds_toArray, List.set_cons_zero, List.set_cons_succ]
        refine wpAnyH_ready (rs := [7]) (by kernel_rfl) (by simp) ?_
        refine AllReadyH.cons (at_S (at_S (at_S (at_S (at_S (at_S (at_S at_0))))))) (fun K hK => ?_) AllReadyH.nil
        go_simp
        refine (DF3.out _).mono ?_
        rintro e w13 ⟨bu, rfl, hra, hle, hb⟩
        have RU := Lib.hid hra
        have RA2 := Lib.hid (RA.out.below hb)
        have B13 : Hid (Below w.heap.size w w13) := Lib.hid (bstep B12.out B12.out.size hb)
        have C13 : Hid (Below w10.heap.size w10 w13) := Lib.hid (bstep C12.out C12.out.size hb)
        clear hra hle hb
        go_wp2_with fail
        refine hK.out _ _ (SS.out _ C13.out) (fun hHeld => ?_)
        clear hK K
        try simp only [Act.put, List.setIfInBounds_toArray, List.set_cons_zero, List.set_cons_succ]
        refine wpAnyH_ready (rs := [8]) (by kernel_rfl) (by simp) ?_
        refine AllReadyH.cons (at_S (at_S (at_S (at_S (at_S (at_S (at_S (at_S at_0)))))))) (fun K hK => ?_) AllReadyH.nil
        go_simp
        refine (rcmp_any ba bu (fv x) (fv (nxt x)) w13 RA2.out RU.out NB.out NB3.out DB.out DB3.out).mono ?_
        rintro e w14 ⟨rfl, hb⟩
        rw [HC.out]
        have B14 : Hid (Below w.heap.size w w14) := Lib.hid (bstep B13.out B13.out.size hb)
        have C14 : Hid (Below w10.heap.size w10 w14) := Lib.hid (bstep C13.out C13.out.size hb)
        clear hb
        go_wp2_with fail
        refine hK.out _ _ (SS.out _ C14.out) (fun hHeld => ?_)
        clear hK K
        try simp only [Act.put, List.setIfInBounds_toArray, List.set_cons_zero, List.set_cons_succ]
        refine held_take (i := 9) (d := 126) (v := .bool false) (at_S (at_S (at_S (at_S (at_S (at_S (at_S (at_S (at_S at_0))))))))) rfl (by kernel_rfl) (by kernel_rfl) (by kernel_rfl) (fun _ _ _ h => h) (Or.inl ⟨by rfl, ?_⟩) hHeld ?_
        · (intro w hSw; (try dsimp only at hSw); go_simp)
        try simp only [Act.put, List.setIfInBounds_toArray, List.set_cons_zero, List.set_cons_succ]
        refine held_take (i := 10) (d := 127) (v := .bool false) (at_S (at_S (at_S (at_S (at_S (at_S (at_S (at_S (at_S (at_S at_0)))))))))) rfl (by kernel_rfl) (by kernel_rfl) (by kernel_rfl) (fun _ _ _ h => h) (Or.inl ⟨by rfl, ?_⟩) hHeld ?_
        · (intro w hSw; (try dsimp only at hSw); go_simp)
        try simp only [Act.put, List.setIfInBounds_toArray, List.set_cons_zero, List.set_cons_succ]
        refine held_take (i := 11) (d := 128) (v := .bool false) (at_S (at_S (at_S (at_S (at_S (at_S (at_S (at_S (at_S (at_S (at_S at_0))))))))))) rfl (by kernel_rfl) (by kernel_rfl) (by kernel_rfl) (fun _ _ _ h => h) (Or.inl ⟨by rfl, ?_⟩) hHeld ?_
        · (intro w hSw; (try dsimp only at hSw); go_simp)
        try simp only [Act.put, List.setIfInBounds_toArray, List.set_cons_zero, List.set_cons_succ]
        refine held_take (i := 12) (d := 129) (v := .float .f64 x) (at_S (at_S (at_S (at_S (at_S (at_S (at_S (at_S (at_S (at_S (at_S (at_S at_0)))))))))))) rfl (by kernel_rfl) (by kernel_rfl) (by kernel_rfl) (fun _ _ _ h => h) (Or.inl ⟨by rfl, ?_⟩) hHeld ?_
        · (intro w hSw; (try dsimp only at hSw); go_simp)
        try simp only [Act.put, List.setIfInBounds_toArray, List.set_cons_zero, List.set_cons_succ]
        refine held_take (i := 13) (d := 130) (v := .bool true) (at_S (at_S (at_S (at_S (at_S (at_S (at_S (at_S (at_S (at_S (at_S (at_S (at_S at_0))))))))))))) rfl (by kernel_rfl) (by kernel_rfl) (by kernel_rfl) (fun _ _ _ h => h) (Or.inl ⟨by rfl, ?_⟩) hHeld ?_
        · (intro w hSw; (try dsimp only at hSw); go_simp)
        try simp only [Act.put, List.setIfInBounds_toArray, List.set_cons_zero, List.set_cons_succ]
        refine held_take (i := 14) (d := 131) (v := .bool true) (at_S (at_S (at_S (at_S (at_S (at_S (at_S (at_S (at_S (at_S (at_S (at_S (at_S (at_S at_0)))))))))))))) rfl (by kernel_rfl) (by kernel_rfl) (by kernel_rfl) (fun _ _ _ h => h) (Or.inl ⟨by rfl, ?_⟩) hHeld ?_
        · (intro w hSw; (try dsimp only at hSw); go_simp)
        try simp only [Act.put, List.setIfInBounds_toArray, List.set_cons_zero, List.set_cons_succ]
        refine held_take (i := 15) (d := 132) (v := .float .f64 x) (at_S (at_S (at_S (at_S (at_S (at_S (at_S (at_S (at_S (at_S (at_S (at_S (at_S (at_S (at_S at_0))))))))))))))) rfl (by kernel_rfl) (by kernel_rfl) (by kernel_rfl) (fun _ _ _ h => h) (Or.inl ⟨by rfl, ?_⟩) hHeld ?_
        · (intro w hSw; (try dsimp only at hSw); go_simp)
        try simp only [Act.put, List.setIfInBounds_toArray, List.set_cons_zero, List.set_cons_succ]
        refine wpAnyH_ready (rs := [16]) (by kernel_rfl) (by simp) ?_
        refine AllReadyH.cons (at_S (at_S (at_S (at_S (at_S (at_S (at_S (at_S (at_S (at_S (at_S (at_S (at_S (at_S (at_S (at_S at_0)))))))))))))))) (fun K hK => ?_) AllReadyH.nil
        go_simp
        refine (SB.out _).mono ?_
        rintro e w' ⟨rfl, rfl⟩
        go_wp2_with fail
        refine hK.out _ _ (SS.out _ C14.out) (fun hHeld => ?_)
        clear hK K
        try simp only [Act.put, List.setIfInBounds_toArray, List.set_cons_zero, List.set_cons_succ]
        refine held_take (i := 17) (d := 134) (v := .bool true) (at_S (at_S (at_S (at_S (at_S (at_S (at_S (at_S (at_S (at_S (at_S (at_S (at_S (at_S (at_S (at_S (at_S at_0))))))))))))))))) rfl (by kernel_rfl) (by kernel_rfl) (by kernel_rfl) (fun _ _ _ h => h) (Or.inl ⟨by rfl, ?_⟩) hHeld ?_
        · (intro w hSw; (try dsimp only at hSw); go_simp)
        try simp only [Act.put, List.setIfInBounds_toArray, List.set_cons_zero, List.set_cons_succ]
        refine held_take (i := 18) (d := 135) (v := .bool true) (at_S (at_S (at_S (at_S (at_S (at_S (at_S (at_S (at_S (at_S (at_S (at_S (at_S (at_S (at_S (at_S (at_S (at_S at_0)))))))))))))))))) rfl (by kernel_rfl) (by kernel_rfl) (by kernel_rfl) (fun _ _ _ h => h) (Or.inl ⟨by rfl, ?_⟩) hHeld ?_
        · (intro w hSw; (try dsimp only at hSw); go_simp)
        try simp only [Act.put, List.setIfInBounds_toArray, List.set_cons_zero, List.set_cons_succ]
        refine held_take (i := 19) (d := 136) (v := .bool true) (at_S (at_S (at_S (at_S (at_S (at_S (at_S (at_S (at_S (at_S (at_S (at_S (at_S (at_S (at_S (at_S (at_S (at_S (at_S at_0))))))))))))))))))) rfl (by kernel_rfl) (by kernel_rfl) (by kernel_rfl) (fun _ _ _ h => h) (Or.inl ⟨by rfl, ?_⟩) hHeld ?_
        · (intro w hSw; (try dsimp only at hSw); go_simp)
        try simp only [Act.put, List.setIfInBounds_toArray, List.set_cons_zero, List.set_cons_succ]
        refine wpAnyH_ready (rs := [20]) (by kernel_rfl) (by simp) ?_
        refine AllReadyH.cons (at_S (at_S (at_S (at_S (at_S (at_S (at_S (at_S (at_S (at_S (at_S (at_S (at_S (at_S (at_S (at_S (at_S (at_S (at_S (at_S at_0)))))))))))))))))))) (fun K hK => ?_) AllReadyH.nil
        go_simp
        refine (AW.out _ B14.out).mono ?_
        rintro e w15 ⟨rfl, hb⟩
        have BZ : Hid (Below w.heap.size w w15) := Lib.hid (bstep B14.out (B14.out).size hb)
        have C15 : Hid (Below w10.heap.size w10 w15) := Lib.hid (bstep C14.out C14.out.size hb)
        clear hb
        go_wp2_with fail
        refine hK.out _ _ (SS.out _ C15.out) (fun hHeld => ?_)
        clear hK K
        try simp only [Act.put, List.setIfInBounds_toArray, List.set_cons_zero, List.set_cons_succ]
        refine held_take (i := 21) (d := 138) (v := .bool true) (at_S (at_S (at_S (at_S (at_S (at_S (at_S (at_S (at_S (at_S (at_S (at_S (at_S (at_S (at_S (at_S (at_S (at_S (at_S (at_S (at_S at_0))))))))))))))))))))) rfl (by kernel_rfl) (by kernel_rfl) (by kernel_rfl) (fun _ _ _ h => h) (Or.inl ⟨by rfl, ?_⟩) hHeld ?_
        · (intro w hSw; (try dsimp only at hSw); go_simp)
        try simp only [Act.put, List.setIfInBounds_toArray, List.set_cons_zero, List.set_cons_succ]
        refine held_take (i := 22) (d := 2) (v := .bool true) (at_S (at_S (at_S (at_S (at_S (at_S (at_S (at_S (at_S (at_S (at_S (at_S (at_S (at_S (at_S (at_S (at_S (at_S (at_S (at_S (at_S (at_S at_0)))))))))))))))))))))) rfl (by kernel_rfl) (by kernel_rfl) (by kernel_rfl) (fun _ _ _ h => h) (Or.inl ⟨by rfl, ?_⟩) hHeld ?_
        · (intro w hSw; (try dsimp only at hSw); go_simp)
        try simp only [Act.put, List.setIfInBounds_toArray, List.set_cons_zero, List.set_cons_succ]
        refine wpAnyH_done (by kernel_rfl) ?_ _
        go_wp2_with fail
        go_ret
        exact ⟨rfl, BZ.out⟩
    · have c20 : c3 = 20 := by
        rcases S3H.out with ⟨_, _, _, q⟩ | ⟨q, _⟩ | ⟨q, _⟩
        · exact q
        · exact absurd q hfn
        · exact absurd q hfn
      subst c20
      clear hfn
      refine wp_region_held_drew (S := (fun _ => True)) (by kernel_rfl) trivial (fun hHeld => ?_)
      refine held_take (i := 0) (d := 117) (v := .int .i64 20) at_0 rfl (by kernel_rfl) (by kernel_rfl) (by kernel_rfl) (fun _ _ _ h => h) (Or.inl ⟨by rfl, ?_⟩) hHeld ?_
      · (intro w hSw; (try dsimp only at hSw); go_simp)
      try simp only [Act.put, List.setIfInBounds_toArray, List.set_cons_zero, List.set_cons_succ]
      refine wpAnyH_ready (rs := [1]) (by kernel_rfl) (by simp) ?_
      refine AllReadyH.cons (at_S at_0) (fun K hK => ?_) AllReadyH.nil
      go_simp
      refine (num_any 20 _).mono ?_
      rintro e w' ⟨rfl, rfl⟩
      go_wp2_with fail
      refine hK.out _ _ trivial (fun hHeld => ?_)
      clear hK K
      try simp only [Act.put, List.setIfInBounds_toArray, List.set_cons_zero, List.set_cons_succ]
      refine held_take (i := 2) (d := 119) (v := .bool true) (at_S (at_S at_0)) rfl (by kernel_rfl) (by kernel_rfl) (by kernel_rfl) (fun _ _ _ h => h) (Or.inl ⟨by rfl, ?_⟩) hHeld ?_
      · (intro w hSw; (try dsimp only at hSw); go_simp)
      try simp only [Act.put, List.setIfInBounds_toArray, List.set_cons_zero, List.set_cons_succ]
      refine held_take (i := 3) (d := 120) (v := .bool true) (at_S (at_S (at_S at_0))) rfl (by kernel_rfl) (by kernel_rfl) (by kernel_rfl) (fun _ _ _ h => h) (Or.inl ⟨by rfl, ?_⟩) hHeld ?_
      · (intro w hSw; (try dsimp only at hSw); go_simp)
      try simp only [Act.put, List.setIfInBounds_toArray, List.set_cons_zero, List.set_cons_succ]
      refine held_take (i := 4) (d := 121) (at_S (at_S (at_S (at_S at_0)))) rfl (by kernel_rfl) (by kernel_rfl) (by kernel_rfl) (fun _ _ _ h => h) (Or.inr ⟨by rfl, rfl⟩) hHeld ?_
      try simp only [Act.put, List.setIfInBounds_toArray, List.set_cons_zero, List.set_cons_succ]
      refine held_take (i := 6) (d := 123) (at_S (at_S (at_S (at_S (at_S (at_S at_0)))))) rfl (by kernel_rfl) (by kernel_rfl) (by kernel_rfl) (fun _ _ _ h => h) (Or.inr ⟨by rfl, rfl⟩) hHeld ?_
      try simp only [Act.put, List.setIfInBounds_toArray, List.set_cons_zero, List.set_cons_succ]
      refine held_take (i := 5) (d := 122) (at_S (at_S (at_S (at_S (at_S at_0))))) rfl (by kernel_rfl) (by kernel_rfl) (by kernel_rfl) (fun _ _ _ h => h) (Or.inr ⟨by rfl, rfl⟩) hHeld ?_
      try simp only [Act.put, List.setIfInBounds_toArray, List.set_cons_zero, List.set_cons_succ]
      refine held_take (i := 7) (d := 124) (at_S (at_S (at_S (at_S (at_S (at_S (at_S at_0))))))) rfl (by kernel_rfl) (by kernel_rfl) (by kernel_rfl) (fun _ _ _ h => h) (Or.inr ⟨by rfl, rfl⟩) hHeld ?_
      try simp only [Act.put, List.setIfInBounds_toArray, List.set_cons_zero, List.set_cons_succ]
      refine held_take (i := 8) (d := 125) (at_S (at_S (at_S (at_S (at_S (at_S (at_S (at_S at_0)))))))) rfl (by kernel_rfl) (by kernel_rfl) (by kernel_rfl) (fun _ _ _ h => h) (Or.inr ⟨by rfl, rfl⟩) hHeld ?_
      try simp only [Act.put, List.setIfInBounds_toArray, List.set_cons_zero, List.set_cons_succ]
      refine held_take (i := 9) (d := 126) (at_S (at_S (at_S (at_S (at_S (at_S (at_S (at_S (at_S at_0))))))))) rfl (by kernel_rfl) (by kernel_rfl) (by kernel_rfl) (fun _ _ _ h => h) (Or.inr ⟨by rfl, rfl⟩) hHeld ?_
      try simp only [Act.put, List.setIfInBounds_toArray, List.set_cons_zero, List.set_cons_succ]
      refine held_take (i := 10) (d := 127) (v := .bool true) (at_S (at_S (at_S (at_S (at_S (at_S (at_S (at_S (at_S (at_S at_0)))))))))) rfl (by kernel_rfl) (by kernel_rfl) (by kernel_rfl) (fun _ _ _ h => h) (Or.inl ⟨by rfl, ?_⟩) hHeld ?_
      · (intro w hSw; (try dsimp only at hSw); go_simp)
      try simp only [Act.put, List.setIfInBounds_toArray, List.set_cons_zero, List.set_cons_succ]
      refine held_take (i := 11) (d := 128) (v := .bool true) (at_S (at_S (at_S (at_S (at_S (at_S (at_S (at_S (at_S (at_S (at_S at_0))))))))))) rfl (by kernel_rfl) (by kernel_rfl) (by kernel_rfl) (fun _ _ _ h => h) (Or.inl ⟨by rfl, ?_⟩) hHeld ?_
      · (intro w hSw; (try dsimp only at hSw); go_simp)
      try simp only [Act.put, List.setIfInBounds_toArray, List.set_cons_zero, List.set_cons_succ]
      refine held_take (i := 12) (d := 129) (at_S (at_S (at_S (at_S (at_S (at_S (at_S (at_S (at_S (at_S (at_S (at_S at_0)))))))))))) rfl (by kernel_rfl) (by kernel_rfl) (by kernel_rfl) (fun _ _ _ h => h) (Or.inr ⟨by rfl, rfl⟩) hHeld ?_
      try simp only [Act.put, List.setIfInBounds_toArray, List.set_cons_zero, List.set_cons_succ]
      refine held_take (i := 13) (d := 130) (at_S (at_S (at_S (at_S (at_S (at_S (at_S (at_S (at_S (at_S (at_S (at_S (at_S at_0))))))))))))) rfl (by kernel_rfl) (by kernel_rfl) (by kernel_rfl) (fun _ _ _ h => h) (Or.inr ⟨by rfl, rfl⟩) hHeld ?_
      try simp only [Act.put, List.setIfInBounds_toArray, List.set_cons_zero, List.set_cons_succ]
      refine held_take (i := 14) (d := 131) (at_S (at_S (at_S (at_S (at_S (at_S (at_S (at_S (at_S (at_S (at_S (at_S (at_S (at_S at_0)))))))))))))) rfl (by kernel_rfl) (by kernel_rfl) (by kernel_rfl) (fun _ _ _ h => h) (Or.inr ⟨by rfl, rfl⟩) hHeld ?_
      try simp only [Act.put, List.setIfInBounds_toArray, List.set_cons_zero, List.set_cons_succ]
      refine held_take (i := 15) (d := 132) (at_S (at_S (at_S (at_S (at_S (at_S (at_S (at_S (at_S (at_S (at_S (at_S (at_S (at_S (at_S at_0))))))))))))))) rfl (by kernel_rfl) (by kernel_rfl) (by kernel_rfl) (fun _ _ _ h => h) (Or.inr ⟨by rfl, rfl⟩) hHeld ?_
      try simp only [Act.put, List.setIfInBounds_toArray, List.set_cons_zero, List.set_cons_succ]
      refine held_take (i := 16) (d := 133) (at_S (at_S (at_S (at_S (at_S (at_S (at_S (at_S (at_S (at_S (at_S (at_S (at_S (at_S (at_S (at_S at_0)))))))))))))))) rfl (by kernel_rfl) (by kernel_rfl) (by kernel_rfl) (fun _ _ _ h => h) (Or.inr ⟨by rfl, rfl⟩) hHeld ?_
      try simp only [Act.put, List.setIfInBounds_toArray, List.set_cons_zero, List.set_cons_succ]
      refine held_take (i := 17) (d := 134) (at_S (at_S (at_S (at_S (at_S (at_S (at_S (at_S (at_S (at_S (at_S (at_S (at_S (at_S (at_S (at_S (at_S at_0))))))))))))))))) rfl (by kernel_rfl) (by kernel_rfl) (by kernel_rfl) (fun _ _ _ h => h) (Or.inr ⟨by rfl, rfl⟩) hHeld ?_
      try simp only [Act.put, List.setIfInBounds_toArray, List.set_cons_zero, List.set_cons_succ]
      refine held_take (i := 18) (d := 135) (v := .bool true) (at_S (at_S (at_S (at_S (at_S (at_S (at_S (at_S (at_S (at_S (at_S (at_S (at_S (at_S (at_S (at_S (at_S (at_S at_0)))))))))))))))))) rfl (by kernel_rfl) (by kernel_rfl) (by kernel_rfl) (fun _ _ _ h => h) (Or.inl ⟨by rfl, ?_⟩) hHeld ?_
      · (intro w hSw; (try dsimp only at hSw); go_simp)
      try simp only [Act.put, List.setIfInBounds_toArray, List.set_cons_zero, List.set_cons_succ]
      refine held_take (i := 19) (d := 136) (v := .bool true) (at_S (at_S (at_S (at_S (at_S (at_S (at_S (at_S (at_S (at_S (at_S (at_S (at_S (at_S (at_S (at_S (at_S (at_S (at_S at_0))))))))))))))))))) rfl (by kernel_rfl) (by kernel_rfl) (by kernel_rfl) (fun _ _ _ h => h) (Or.inl ⟨by rfl, ?_⟩) hHeld ?_
      · (intro w hSw; (try dsimp only at hSw); go_simp)
      try simp only [Act.put, List.setIfInBounds_toArray, List.set_cons_zero, List.set_cons_succ]
      refine wpAnyH_ready (rs := [20]) (by kernel_rfl) (by simp) ?_
      refine AllReadyH.cons (at_S (at_S (at_S (at_S (at_S (at_S (at_S (at_S (at_S (at_S (at_S (at_S (at_S (at_S (at_S (at_S (at_S (at_S (at_S (at_S at_0)))))))))))))))))))) (fun K hK => ?_) AllReadyH.nil
      go_simp
      refine (AW.out _ BD.out).mono ?_
      rintro e w15 ⟨rfl, hb⟩
      have BZ : Hid (Below w.heap.size w w15) := Lib.hid (bstep BD.out (BD.out).size hb)
      have C15 : Hid (Below w10.heap.size w10 w15) := Lib.hid (bstep D10.out D10.out.size hb)
      clear hb
      go_wp2_with fail
      refine hK.out _ _ trivial (fun hHeld => ?_)
      clear hK K
      try simp only [Act.put, List.setIfInBounds_toArray, List.set_cons_zero, List.set_cons_succ]
      refine held_take (i := 21) (d := 138) (v := .bool true) (at_S (at_S (at_S (at_S (at_S (at_S (at_S (at_S (at_S (at_S (at_S (at_S (at_S (at_S (at_S (at_S (at_S (at_S (at_S (at_S (at_S at_0))))))))))))))))))))) rfl (by kernel_rfl) (by kernel_rfl) (by kernel_rfl) (fun _ _ _ h => h) (Or.inl ⟨by rfl, ?_⟩) hHeld ?_
      · (intro w hSw; (try dsimp only at hSw); go_simp)
      try simp only [Act.put, List.setIfInBounds_toArray, List.set_cons_zero, List.set_cons_succ]
      refine held_take (i := 22) (d := 2) (v := .bool true) (at_S (at_S (at_S (at_S (at_S (at_S (at_S (at_S (at_S (at_S (at_S (at_S (at_S (at_S (at_S (at_S (at_S (at_S (at_S (at_S (at_S (at_S at_0)))))))))))))))))))))) rfl (by kernel_rfl) (by kernel_rfl) (by kernel_rfl) (fun _ _ _ h => h) (Or.inl ⟨by rfl, ?_⟩) hHeld ?_
      · (intro w hSw; (try dsimp only at hSw); go_simp)
      try simp only [Act.put, List.setIfInBounds_toArray, List.set_cons_zero, List.set_cons_succ]
      refine wpAnyH_done (by kernel_rfl) ?_ _
      go_wp2_with fail
      go_ret
      exact ⟨rfl, BZ.out⟩

theorem ieeeValues_walk (x : Nat) (hx : x < 2 ^ 64) (w : World) (hT : Tabs w) :
    Calls Tryz.prog 3 #[.int .u64 x] w fun e w' => e = .returned (.bool true) ∧ Below w.heap.size w w' := by
  by_cases hf : fin x
  · exact values_fin x hx hf w hT
  · exact values_out x hx hf w hT
end Go.Proofs.YtokmommlabdcdaaGreatDoor
