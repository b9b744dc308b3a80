/- Contract of surdbig's SetString of decimal digits, with a minus ahead or not. -/
import Derived.Test.YtokmommlabdcdaaGreatDoorVGrown
import Derived.Test.YtokmommlabdcdaaGreatDoorVBig11
import Derived.Lib.ItoaMem
import Derived.Lib.Strings
import Derived.Laws.Strings3
set_option linter.unusedVariables false
set_option linter.unusedSimpArgs false
set_option linter.unusedVariables false
set_option linter.unusedSimpArgs false
namespace Go.Proofs.YtokmommlabdcdaaGreatDoor
open Wd Fl Go.RowKit
/-- a string of bytes -/
def sv (l : List UInt8) : ByteArray := ⟨l.toArray⟩
theorem sv_size (l : List UInt8) : (sv l).size = l.length := by simp [sv, ByteArray.size]
theorem sv_at {P : Program} (t : TypeId) (ht : P.underlying t = some .string) (l : List UInt8) (i : Nat) (hi : i < l.length) (w : World) :
    (Instr.index t (.string (sv l)) (.int .i64 (i : Int))).run P w = .ok (.int .u8 (((l.getD i 0).toNat : Nat) : Int)) w := by
  rw [run_index_string w t (sv l) .i64 _ ht, dif_pos ⟨by omega, by rw [sv_size]; omega⟩]
  have e : ((i : Int)).toNat = i := by omega
  simp only [e]
  congr 3
  rw [List.getD_eq_getElem?_getD, List.getElem?_eq_getElem hi]
  rfl
theorem sv_cut {P : Program} (t : TypeId) (ht : P.underlying t = some .string) (c : UInt8) (l : List UInt8) (w : World) :
    (Instr.slice t (.string (sv (c :: l))) (some (.int .i64 1)) none none).run P w = .ok (.string (sv l)) w := by
  rw [run_slice_string_from_if w t (sv (c :: l)) .i64 1 ht, if_pos ⟨by omega, by rw [sv_size]; simp; omega⟩, Lib.extract_eq, sv_size]
  simp [sv]
theorem sv_minus {P : Program} (t : TypeId) (ht : P.underlying t = some .string) (l : List UInt8) (w : World) :
    (Instr.index t (.string (sv (45 :: l))) (.int .i64 0)).run P w = .ok (.int .u8 45) w := by
  have := sv_at (P := P) t ht (45 :: l) 0 (by simp) w
  rw [List.getD_cons_zero, show ((UInt8.toNat 45 : Nat) : Int) = 45 by decide] at this
  exact this
theorem bnd1 {a i n : Nat} (h1 : a ≤ i) (h2 : i < n) (h3 : n ≤ 100000) : a ≤ 1000000 := by omega
theorem bnd2 {a n : Nat} (h1 : a ≤ n) (h3 : n ≤ 100000) : a ≤ 4611686018427387904 := by omega
theorem sgn_t (l : List Nat) : sgn true l = -(val l : Int) := rfl
theorem sgn_f (l : List Nat) : sgn false l = (val l : Int) := rfl
theorem sv_full {l : List UInt8} (h : 0 < l.length) : (sv l).toList.isEmpty = false := by
  rw [ByteArray.toList_eq]
  cases l with
  | nil => simp at h
  | cons x r => rfl
def SsL (l : List UInt8) (n base : Nat) (w : World) (sw sr sb si : Value) (wr : World) : Prop :=
  ∃ (i : Nat) (W : List Nat) (row by_ : Int), i ≤ n ∧ sr = .int .u32 row ∧ sb = .int .u32 by_ ∧ si = .int .i64 i ∧ SsV l i W row by_ ∧ wr.ownsRow base TW 1 sw W.length (W.map wv) ∧ Below base w wr
theorem SsL.mk {l : List UInt8} {n base i : Nat} {w wr : World} {sw : Value} {W : List Nat} {row by_ : Int} (h1 : i ≤ n) (h2 : SsV l i W row by_) (h3 : wr.ownsRow base TW 1 sw W.length (W.map wv)) (h4 : Below base w wr) : SsL l n base w sw (.int .u32 row) (.int .u32 by_) (.int .i64 i) wr := ⟨i, W, row, by_, h1, rfl, rfl, rfl, h2, h3, h4⟩
def SetRet (b o : Nat) (n : Int) (w : World) (e : Ending) (w' : World) : Prop := e = .returned (.tuple #[.pointer (some ⟨b, o, none⟩), .bool true]) ∧ IntAt TW w' ⟨b, o, none⟩ n ∧ Wr b o (o + 2) w w'
set_option maxRecDepth 100000 in
set_option maxHeartbeats 4000000 in
theorem setStr_pos (bz oz : Nat) (l : List UInt8) (w : World) (hz : ZAt TW w bz oz 2) (dg : Digs l) (h0 : 0 < l.length) (hl : l.length ≤ 100000) :
    Calls Tryz.prog 42 #[.pointer (some ⟨bz, oz, none⟩), .string (sv l), .int .i64 10] w (SetRet bz oz ((pv l : Nat) : Int) w) := by
  obtain ⟨s, hs⟩ : ∃ s, sv l = s := ⟨_, rfl⟩
  obtain ⟨n, hn⟩ : ∃ n, l.length = n := ⟨_, rfl⟩
  have sz : s.size = n := by rw [← hs, sv_size, hn]
  have AT := Lib.hid (fun i hi w => sv_at (P := Tryz.prog) 9 Tryz.underlying9 l i hi w)
  rw [hs, hn] at AT
  rw [hs]
  have nI : decide (0 < n) = true := decide_eq_true (by omega)
  obtain ⟨c0, hc0⟩ : ∃ c0 : Int, (((l.getD 0 0).toNat : Nat) : Int) = c0 := ⟨_, rfl⟩
  have a0 : ∀ w, (Instr.index 9 (.string s) (.int .i64 0)).run Tryz.prog w = .ok (.int .u8 c0) w := fun w => by have := AT.out 0 (by omega) w; rwa [hc0] at this
  have d0 := dg.get h0
  have e1 : (c0 == 45) = false := by rw [beq_eq_false_iff_ne]; omega
  have e2 : (c0 == 43) = false := by rw [beq_eq_false_iff_ne]; omega
  have HN := Lib.hid hn
  have DG := Lib.hid dg
  have HZ := Lib.hid hz
  have H0 := Lib.hid h0
  have HL := Lib.hid hl
  have HLn : Hid (n ≤ 100000) := Lib.hid (by omega)
  have e3 : s.toList.isEmpty = false := by rw [← hs]; exact sv_full h0
  clear hs hn dg hz h0 hl hc0 d0
  go_enter Tryz.func42, Tryz.ntmps42
  go_wp2_with fail
  go_loopw [9, 10, 11, 12] (fun sw sr sb si wr => SsL l n w.heap.size w sw sr sb si wr) (fun _ _ _ si _ => n - (intOf si).toNat)
  case atStart => exact SsL.mk (i := 0) (Nat.zero_le _) (SsV.start l) (own_nil _ _ _ _) (Below.refl _ _)
  case round =>
    obtain ⟨i, W, row, by_, hi, rfl, rfl, rfl, hv, ho, hb⟩ := hrel
    clear nI a0 e1 e2
    have V := Lib.hid hv
    have O := Lib.hid ho
    have B := Lib.hid hb
    clear hv ho hb
    by_cases hlt : i < n
    · have hlt' : decide ((i : Int) < (n : Int)) = true := decide_eq_true (by omega)
      have hltI : (i : Int) < (n : Int) := by omega
      obtain ⟨c, hc⟩ : ∃ c : Int, (((l.getD i 0).toNat : Nat) : Int) = c := ⟨_, rfl⟩
      have at_ : ∀ w, (Instr.index 9 (.string s) (.int .i64 (i : Int))).run Tryz.prog w = .ok (.int .u8 c) w := fun w => by have := AT.out i hlt w; rwa [hc] at this
      obtain ⟨d, hd⟩ : ∃ d : Int, c - 48 = d := ⟨_, rfl⟩
      have hde : d = (((l.getD i 0).toNat : Nat) : Int) - 48 := by rw [hc, hd]
      have hil : i < l.length := by have := HN.out; omega
      obtain ⟨k1, k2, k3, k4, k5, k6⟩ := V.out.on DG.out hil hde
      have f1 : decide ((48 : Int) ≤ c) = true := decide_eq_true (by omega)
      have f2 : decide (c ≤ 57) = true := decide_eq_true (by omega)
      have w1 : RowKit.wrap64 ((i : Int) + 1) = ((i + 1 : Nat) : Int) := by have := HLn.out; rw [w64 _ (by omega) (by omega)]; omega
      have w2 : RowKit.wrap64 ((n : Int) - 1) = (n : Int) - 1 := by have := HLn.out; exact w64 _ (by omega) (by omega)
      obtain ⟨Bn, hB⟩ : ∃ x : Nat, (x : Int) = by_ * 10 := ⟨(by_ * 10).toNat, by omega⟩
      obtain ⟨Rn, hR⟩ : ∃ x : Nat, (x : Int) = row * 10 + d := ⟨(row * 10 + d).toNat, by omega⟩
      have FL := Lib.hid (fun X (hv : (val X : Int) = (val W : Int) * (by_ * 10) + (row * 10 + d)) ok nm hl => V.out.flush (X := X) DG.out hil hde hv ok nm hl)
      have KE := Lib.hid (fun h1 h2 => V.out.keep DG.out hil hde h1 h2)
      have GR := grown_any w.heap.size u9 W Bn Rn wr O.out V.out.ok V.out.nm (bnd1 V.out.len hlt HLn.out) B.out.size (by omega) (by omega) (by omega)
      rw [hB, hR] at GR
      have GR := Lib.hid GR
      have HBn := Lib.hid hB
      have HRn := Lib.hid hR
      have HIL := Lib.hid hil
      clear hB hR hde hc hil
      by_cases g1 : 10000000 ≤ by_ * 10
      · have g2 : decide (10000000 ≤ by_ * 10) = true := decide_eq_true g1
        go_wp2_with fail
        refine GR.out.mono ?_
        intro e w3 h3
        rcases h3 with ⟨v3, l3, rfl, ho3, ok3, nm3, hv3, hl3, hb3⟩
        have NX := Lib.hid (SsL.mk (n := n) (i := i + 1) (by omega) (FL.out l3 (by rw [hv3, Int.natCast_add, Int.natCast_mul, HBn.out, HRn.out]) ok3 nm3 hl3) ho3 (B.out.trans hb3))
        clear ho3 ok3 nm3 hv3 hl3 hb3
        go_wp2_with fail
        go_roundw
        case rel => rw [w1]; exact NX.out
        case measure => rw [w1]; simp only [intOf]; omega
      · have g2 : decide (10000000 ≤ by_ * 10) = false := decide_eq_false g1
        by_cases g3 : i = n - 1
        · have g4 : ((i : Int) == (n : Int) - 1) = true := by rw [beq_iff_eq]; omega
          clear g3
          go_wp2_with fail
          refine GR.out.mono ?_
          intro e w3 h3
          rcases h3 with ⟨v3, l3, rfl, ho3, ok3, nm3, hv3, hl3, hb3⟩
          have NX := Lib.hid (SsL.mk (n := n) (i := i + 1) (by omega) (FL.out l3 (by rw [hv3, Int.natCast_add, Int.natCast_mul, HBn.out, HRn.out]) ok3 nm3 hl3) ho3 (B.out.trans hb3))
          clear ho3 ok3 nm3 hv3 hl3 hb3
          go_wp2_with fail
          go_roundw
          case rel => rw [w1]; exact NX.out
          case measure => rw [w1]; simp only [intOf]; omega
        · have g4 : ((i : Int) == (n : Int) - 1) = false := by rw [beq_eq_false_iff_ne]; omega
          go_wp2_with fail
          go_roundw
          case rel => rw [w1]; exact SsL.mk (i := i + 1) (by omega) (KE.out (by omega) (by have := HN.out; omega)) O.out B.out
          case measure => rw [w1]; simp only [intOf]; omega
    · obtain rfl : i = n := by omega
      have hge : decide ((i : Int) < (i : Int)) = false := decide_eq_false (by omega)
      have V2 := V.out
      rw [← HN.out] at V2
      have D := Lib.hid (V2.done H0.out)
      have PU := Lib.hid (iput_any bz oz false u9 W wr (HZ.out.below B.out) (WAt.of_own O.out) V.out.ok V.out.nm (bnd2 V.out.len HLn.out))
      clear hlt V2
      go_wp2_with fail
      refine PU.out.mono ?_
      rintro e w3 ⟨rfl, hi3, hr3⟩
      have I3 := Lib.hid hi3
      have R3 := Lib.hid ((Wr.of_below bz oz (oz + 2) B.out).trans hr3)
      clear hi3 hr3
      go_wp2_with fail
      go_ret2
      exact ⟨rfl, by have := I3.out; rw [sgn_f, D.out] at this; exact this, R3.out⟩
set_option maxRecDepth 100000 in
set_option maxHeartbeats 4000000 in
theorem setStr_neg (bz oz : Nat) (l : List UInt8) (w : World) (hz : ZAt TW w bz oz 2) (dg : Digs l) (h0 : 0 < l.length) (hl : l.length ≤ 100000) :
    Calls Tryz.prog 42 #[.pointer (some ⟨bz, oz, none⟩), .string (sv (45 :: l)), .int .i64 10] w (SetRet bz oz (-((pv l : Nat) : Int)) w) := by
  obtain ⟨s, hs⟩ : ∃ s, sv l = s := ⟨_, rfl⟩
  obtain ⟨n, hn⟩ : ∃ n, l.length = n := ⟨_, rfl⟩
  have sz : s.size = n := by rw [← hs, sv_size, hn]
  have AT := Lib.hid (fun i hi w => sv_at (P := Tryz.prog) 9 Tryz.underlying9 l i hi w)
  rw [hs, hn] at AT
  obtain ⟨s0, hs0⟩ : ∃ s, sv (45 :: l) = s := ⟨_, rfl⟩
  rw [hs0]
  have sz0 : s0.size = n + 1 := by rw [← hs0, sv_size, List.length_cons, hn]
  have CUT : ∀ w, (Instr.slice 9 (.string s0) (some (.int .i64 1)) none none).run Tryz.prog w = .ok (.string s) w := fun w => by
    have := sv_cut (P := Tryz.prog) 9 Tryz.underlying9 45 l w
    rwa [hs0, hs] at this
  have a0 : ∀ w, (Instr.index 9 (.string s0) (.int .i64 0)).run Tryz.prog w = .ok (.int .u8 45) w := fun w => by
    rw [← hs0]; exact sv_minus (P := Tryz.prog) 9 Tryz.underlying9 l w
  have nI : decide (0 < n + 1) = true := decide_eq_true (by omega)
  have HN := Lib.hid hn
  have DG := Lib.hid dg
  have HZ := Lib.hid hz
  have H0 := Lib.hid h0
  have HL := Lib.hid hl
  have HLn : Hid (n ≤ 100000) := Lib.hid (by omega)
  have e3 : s.toList.isEmpty = false := by rw [← hs]; exact sv_full h0
  clear hs hn dg hz h0 hl hs0
  go_enter Tryz.func42, Tryz.ntmps42
  go_wp2_with fail
  go_loopw [9, 10, 11, 12] (fun sw sr sb si wr => SsL l n w.heap.size w sw sr sb si wr) (fun _ _ _ si _ => n - (intOf si).toNat)
  case atStart => exact SsL.mk (i := 0) (Nat.zero_le _) (SsV.start l) (own_nil _ _ _ _) (Below.refl _ _)
  case round =>
    obtain ⟨i, W, row, by_, hi, rfl, rfl, rfl, hv, ho, hb⟩ := hrel
    clear nI sz0 a0 CUT
    have V := Lib.hid hv
    have O := Lib.hid ho
    have B := Lib.hid hb
    clear hv ho hb
    by_cases hlt : i < n
    · have hlt' : decide ((i : Int) < (n : Int)) = true := decide_eq_true (by omega)
      have hltI : (i : Int) < (n : Int) := by omega
      obtain ⟨c, hc⟩ : ∃ c : Int, (((l.getD i 0).toNat : Nat) : Int) = c := ⟨_, rfl⟩
      have at_ : ∀ w, (Instr.index 9 (.string s) (.int .i64 (i : Int))).run Tryz.prog w = .ok (.int .u8 c) w := fun w => by have := AT.out i hlt w; rwa [hc] at this
      obtain ⟨d, hd⟩ : ∃ d : Int, c - 48 = d := ⟨_, rfl⟩
      have hde : d = (((l.getD i 0).toNat : Nat) : Int) - 48 := by rw [hc, hd]
      have hil : i < l.length := by have := HN.out; omega
      obtain ⟨k1, k2, k3, k4, k5, k6⟩ := V.out.on DG.out hil hde
      have f1 : decide ((48 : Int) ≤ c) = true := decide_eq_true (by omega)
      have f2 : decide (c ≤ 57) = true := decide_eq_true (by omega)
      have w1 : RowKit.wrap64 ((i : Int) + 1) = ((i + 1 : Nat) : Int) := by have := HLn.out; rw [w64 _ (by omega) (by omega)]; omega
      have w2 : RowKit.wrap64 ((n : Int) - 1) = (n : Int) - 1 := by have := HLn.out; exact w64 _ (by omega) (by omega)
      obtain ⟨Bn, hB⟩ : ∃ x : Nat, (x : Int) = by_ * 10 := ⟨(by_ * 10).toNat, by omega⟩
      obtain ⟨Rn, hR⟩ : ∃ x : Nat, (x : Int) = row * 10 + d := ⟨(row * 10 + d).toNat, by omega⟩
      have FL := Lib.hid (fun X (hv : (val X : Int) = (val W : Int) * (by_ * 10) + (row * 10 + d)) ok nm hl => V.out.flush (X := X) DG.out hil hde hv ok nm hl)
      have KE := Lib.hid (fun h1 h2 => V.out.keep DG.out hil hde h1 h2)
      have GR := grown_any w.heap.size u9 W Bn Rn wr O.out V.out.ok V.out.nm (bnd1 V.out.len hlt HLn.out) B.out.size (by omega) (by omega) (by omega)
      rw [hB, hR] at GR
      have GR := Lib.hid GR
      have HBn := Lib.hid hB
      have HRn := Lib.hid hR
      have HIL := Lib.hid hil
      clear hB hR hde hc hil
      by_cases g1 : 10000000 ≤ by_ * 10
      · have g2 : decide (10000000 ≤ by_ * 10) = true := decide_eq_true g1
        go_wp2_with fail
        refine GR.out.mono ?_
        intro e w3 h3
        rcases h3 with ⟨v3, l3, rfl, ho3, ok3, nm3, hv3, hl3, hb3⟩
        have NX := Lib.hid (SsL.mk (n := n) (i := i + 1) (by omega) (FL.out l3 (by rw [hv3, Int.natCast_add, Int.natCast_mul, HBn.out, HRn.out]) ok3 nm3 hl3) ho3 (B.out.trans hb3))
        clear ho3 ok3 nm3 hv3 hl3 hb3
        go_wp2_with fail
        go_roundw
        case rel => rw [w1]; exact NX.out
        case measure => rw [w1]; simp only [intOf]; omega
      · have g2 : decide (10000000 ≤ by_ * 10) = false := decide_eq_false g1
        by_cases g3 : i = n - 1
        · have g4 : ((i : Int) == (n : Int) - 1) = true := by rw [beq_iff_eq]; omega
          clear g3
          go_wp2_with fail
          refine GR.out.mono ?_
          intro e w3 h3
          rcases h3 with ⟨v3, l3, rfl, ho3, ok3, nm3, hv3, hl3, hb3⟩
          have NX := Lib.hid (SsL.mk (n := n) (i := i + 1) (by omega) (FL.out l3 (by rw [hv3, Int.natCast_add, Int.natCast_mul, HBn.out, HRn.out]) ok3 nm3 hl3) ho3 (B.out.trans hb3))
          clear ho3 ok3 nm3 hv3 hl3 hb3
          go_wp2_with fail
          go_roundw
          case rel => rw [w1]; exact NX.out
          case measure => rw [w1]; simp only [intOf]; omega
        · have g4 : ((i : Int) == (n : Int) - 1) = false := by rw [beq_eq_false_iff_ne]; omega
          go_wp2_with fail
          go_roundw
          case rel => rw [w1]; exact SsL.mk (i := i + 1) (by omega) (KE.out (by omega) (by have := HN.out; omega)) O.out B.out
          case measure => rw [w1]; simp only [intOf]; omega
    · obtain rfl : i = n := by omega
      have hge : decide ((i : Int) < (i : Int)) = false := decide_eq_false (by omega)
      have V2 := V.out
      rw [← HN.out] at V2
      have D := Lib.hid (V2.done H0.out)
      have PU := Lib.hid (iput_any bz oz true u9 W wr (HZ.out.below B.out) (WAt.of_own O.out) V.out.ok V.out.nm (bnd2 V.out.len HLn.out))
      clear hlt V2
      go_wp2_with fail
      refine PU.out.mono ?_
      rintro e w3 ⟨rfl, hi3, hr3⟩
      have I3 := Lib.hid hi3
      have R3 := Lib.hid ((Wr.of_below bz oz (oz + 2) B.out).trans hr3)
      clear hi3 hr3
      go_wp2_with fail
      go_ret2
      exact ⟨rfl, by have := I3.out; rw [sgn_t, D.out] at this; exact this, R3.out⟩
end Go.Proofs.YtokmommlabdcdaaGreatDoor
