/- Contracts of surdbig's BitLen, and of Bit of the place 0. Contract of surdbig's TrailingZeroBits. Contracts of surdbig's Int64, CmpAbs, of surdlaw2's sign. -/
import Derived.Test.YtokmommlabdcdaaGreatDoorVBig11
import Derived.Test.YtokmommlabdcdaaGreatDoorVBig7
import Derived.WalkSmall
import Derived.Test.YtokmommlabdcdaaGreatDoorVFlRel
import Derived.Test.YtokmommlabdcdaaGreatDoorVFlWalk
import Derived.Deep.RegionLaw
set_option linter.unusedVariables false
set_option linter.unusedSimpArgs false
namespace Go.Proofs.YtokmommlabdcdaaGreatDoor
open Wd Fl Go.RowKit
set_option linter.unusedVariables false
set_option linter.unusedSimpArgs false
set_option maxRecDepth 100000 in
set_option maxHeartbeats 4000000 in
theorem bitLen_any (bx ox : Nat) (n : Int) (w : World) (hx : IntAt TW w ⟨bx, ox, none⟩ n) (hn : bl n ≤ 100000) :
    Calls Tryz.prog 12 #[.pointer (some ⟨bx, ox, none⟩)] w fun e w' => e = .returned (.int .i64 (bl n : Nat)) ∧ Below w.heap.size w w' := by
  obtain ⟨neg, a, cap, l, h1, h2, H3, OK, NM, HN, HE, HK, N1⟩ := IntAt.open hx
  have e1 : bl n = blen (val l) := by unfold bl; rw [HE.out, sgn_abs]
  have hl := HK.out _ hn
  rw [e1]
  clear hx hn e1 HN HE HK h1
  by_cases h0 : l = []
  · subst h0
    simp only [List.length_nil] at h2
    rw [val_nil, blen_zero]
    clear H3 OK NM
    go_enter Tryz.func12, Tryz.ntmps12
    go_wp2
    go_ret
    exact ⟨rfl, Below.refl _ _⟩
  · obtain ⟨r, x, rfl⟩ := snoc_of_ne h0
    have hx0 := nm_snoc.1 NM.out
    have hxW : x < 4294967296 := OK.out x (by simp)
    rw [blen_words OK.out.left hx0]
    obtain ⟨e1, b, off, rfl, hc, ht, hf⟩ := wcell H3.out (by simp)
    have g1 := hf r.length (by simp)
    have hgx : (r ++ [x]).getD r.length 0 = x := by simp [List.getD_eq_getElem?_getD]
    rw [hgx] at g1
    have hlen : (r ++ [x]).length = r.length + 1 := by simp
    rw [hlen] at hl hc h2
    have p1 : ((r.length + 1 : Nat) : Int) - 1 = (r.length : Int) := by omega
    have p2 : (((r.length + 1 : Nat) : Int) == 0) = false := by rw [beq_eq_false_iff_ne]; omega
    have p3 : (r.length : Int) < ((r.length + 1 : Nat) : Int) := by omega
    have p4 : ((r.length + 1 : Nat) : Int) ≤ (cap : Int) := by omega
    have p5 : (r.length : Int) ≤ 100000 := by omega
    have HXW := Lib.hid hxW
    clear H3 OK NM h0 hx0 e1 hc ht hf hgx hlen hxW hl
    generalize r.length = n at *
    generalize n + 1 = m at *
    have p6 : (0 : Int) ≤ (n : Int) := by omega
    have p7 : IntKind.i64.wrap ((m : Int) - 1) = (n : Int) := by rw [p1]; exact IntWalk.i64_in _ (by omega)
    go_enter Tryz.func12, Tryz.ntmps12
    go_wp2_with fail
    go_quiet (fail)
    go_wp2_with fail
    clear p7
    go_loop [3, 4] (fun sk sw => ∃ (j : Nat) (Y : Int), sw = .int .u32 Y ∧ sk = .int .i64 (32 * (n : Int) + j) ∧ BitV x j Y) (fun sk _ => (32 * (n : Int) + 32 - intOf sk).toNat)
    case atStart => exact ⟨0, x, rfl, by go_num, .start x⟩
    case round =>
      obtain ⟨j, Y, rfl, rfl, hv⟩ := hrel
      have hj := hv.2.2
      have hY0 := hv.pos
      have hYW := hv.lt HXW.out
      have hjI : (j : Int) ≤ 32 := by omega
      have HV := Lib.hid hv
      clear hv hj
      by_cases hY : 0 < Y
      · have hst := HV.out.step HXW.out hY
        have HST := Lib.hid hst
        clear hst
        go_wp2
        go_round
        case rel => exact ⟨j + 1, Y / 2, rfl, by go_num, HST.out.1⟩
        case measure => have := HST.out.2; simp [intOf]; omega
      · have hd := HV.out.done hY
        have HD := Lib.hid hd
        clear hd
        go_wp2
        go_ret
        exact ⟨ret_int (by rw [HD.out]), below_drewN (Below.refl _ _) _⟩
end Go.Proofs.YtokmommlabdcdaaGreatDoor
set_option linter.unusedVariables false
set_option linter.unusedSimpArgs false
namespace Go.Proofs.YtokmommlabdcdaaGreatDoor
open Wd Fl Go.RowKit
theorem bit_word {l : List Nat} (ok : Ok l) (i s : Nat) (hi : i < l.length) (hs : s < 32) : val l / 2 ^ (32 * i + s) % 2 = l.getD i 0 / 2 ^ s % 2 := by
  have e := val_split l i (by omega)
  have hp : (4294967296 : Nat) = 2 ^ s * (2 * 2 ^ (31 - s)) := by
    rw [Nat.mul_left_comm, ← Nat.pow_add]
    have : s + (31 - s) = 31 := by omega
    rw [this]
  have hlt : val (l.take i) < 4294967296 ^ i := val_take_lt ok i (by omega)
  have h32 : (2 : Nat) ^ (32 * i) = 4294967296 ^ i := (pw i).symm
  rw [e, Nat.pow_add, h32, ← Nat.div_div_eq_div_mul, Nat.add_mul_div_left _ _ (Nat.pow_pos (by decide)), Nat.div_eq_of_lt hlt, Nat.zero_add, drop_cons' l i hi, val_cons]
  generalize val (l.drop (i + 1)) = D
  rw [hp, Nat.mul_assoc, Nat.add_mul_div_left _ _ (Nat.two_pow_pos _), Nat.mul_assoc]
  omega
theorem mod_on {N K : Nat} (h : N % 2 ^ K = 0) (h2 : N / 2 ^ K % 2 = 0) : N % 2 ^ (K + 1) = 0 := by
  rw [Nat.pow_succ, Nat.mod_mul, h, h2]; rfl
/-- the loop's state: the place -/
def TzV (N len : Nat) (sk : Value) : Prop := ∃ K : Nat, sk = .int .u64 (K : Int) ∧ K ≤ 32 * len ∧ N % 2 ^ K = 0
set_option maxRecDepth 100000 in
set_option maxHeartbeats 4000000 in
theorem btz_any (bx ox : Nat) (n : Int) (w : World) (hx : IntAt TW w ⟨bx, ox, none⟩ n) (hn : bl n ≤ 100000) (h0 : n ≠ 0) :
    Calls Tryz.prog 102 #[.pointer (some ⟨bx, ox, none⟩)] w fun e w' => (∃ k : Nat, e = .returned (.int .u64 (k : Int)) ∧ TzR n.natAbs k) ∧ w = w' := by
  obtain ⟨neg, a, cap, l, h1, h2, H3, OK, NM, HN, HE, HK, N1⟩ := IntAt.open hx
  have hv : val l = n.natAbs := by rw [HE.out, sgn_abs]
  have hl := HK.out _ hn
  have hl0 : 0 < l.length := by
    rcases Nat.eq_zero_or_pos l.length with e | e
    · have : l = [] := List.eq_nil_of_length_eq_zero e
      subst this; simp [val] at hv; omega
    · exact e
  obtain ⟨e1, b, off, rfl, hc, ht, hf⟩ := wcell H3.out hl0
  have HF := Lib.hid hf
  have hlt := val_lt OK.out
  have BW := Lib.hid (bit_word OK.out)
  have OKg := Lib.hid (fun k => OK.out.get k)
  obtain ⟨len, hL⟩ : ∃ len, l.length = len := ⟨_, rfl⟩
  obtain ⟨N, hN⟩ : ∃ N, val l = N := ⟨_, rfl⟩
  rw [← hv, hN]
  rw [hN, hL, pw] at hlt
  have HLT : Hid (N < 2 ^ (32 * len) ∧ N ≠ 0) := Lib.hid ⟨hlt, by omega⟩
  rw [hL] at h2 hl hc hl0
  rw [hL, hN] at BW
  rw [hL] at HF
  have lc : (len : Int) ≤ (cap : Int) := by omega
  have lI : (len : Int) ≤ 100000 := by omega
  clear hx hn h0 hv HN HE HK H3 NM hf hlt e1 ht
  go_enter Tryz.func102, Tryz.ntmps102
  go_wp2_with fail
  go_loop [3] (fun sk => TzV N len sk) (fun sk => (32 * (len : Int) + 2 - intOf sk).toNat)
  case atStart => exact ⟨0, rfl, by omega, by rw [Nat.pow_zero]; exact Nat.mod_one _⟩
  case round =>
    obtain ⟨K, rfl, hK, hm⟩ := hrel
    have hk : K < 32 * len := by
      rcases Nat.lt_or_ge K (32 * len) with h | h
      · exact h
      · have : K = 32 * len := by omega
        subst this
        rw [Nat.mod_eq_of_lt HLT.out.1] at hm
        exact absurd hm HLT.out.2
    obtain ⟨i, hi⟩ : ∃ i, K / 32 = i := ⟨_, rfl⟩
    obtain ⟨s, hs⟩ : ∃ s, K % 32 = s := ⟨_, rfl⟩
    have hil : i < len := by omega
    have hs32 : s < 32 := by omega
    have hKe : 32 * i + s = K := by omega
    have bw := BW.out i s hil hs32
    rw [hKe] at bw
    have cx := HF.out i hil
    have xW := OKg.out i
    obtain ⟨x, hx⟩ : ∃ x, l.getD i 0 = x := ⟨_, rfl⟩
    rw [hx] at bw cx xW
    have HX := Lib.hid hx
    have XW := Lib.hid xW
    have d1 : (K : Int) / 32 = (i : Int) := by omega
    have d2 : (K : Int) % 32 = (s : Int) := by omega
    have d3 : (K : Int).tdiv 32 = (i : Int) := by rw [Int.tdiv_eq_ediv_of_nonneg (by omega)]; exact d1
    have d4 : (K : Int).tmod 32 = (s : Int) := by rw [Int.tmod_eq_emod_of_nonneg (by omega)]; exact d2
    have f0 : decide ((K : Int) < 32 * (len : Int)) = true := decide_eq_true (by omega)
    have f1 : decide ((K : Int) < (len : Int) * 32) = true := decide_eq_true (by omega)
    have iI : (i : Int) < (len : Int) := by omega
    have sI : (s : Int) < 32 := by omega
    have HI := Lib.hid (⟨hi, hs, hK⟩ : K / 32 = i ∧ K % 32 = s ∧ K ≤ 32 * len)
    have HM := Lib.hid hm
    have BX := Lib.hid bw
    have HK2 := Lib.hid hk
    clear hi hs hm hk bw hx xW hK hil hKe
    have hand : Go.bits .and .u32 ((x : Int) / 2 ^ s) 1 = ((N / 2 ^ K % 2 : Nat) : Int) := by
      have e2 : ((x : Int) / 2 ^ s) = ((x / 2 ^ s : Nat) : Int) := by rw [Int.natCast_ediv, Int.natCast_pow]; rfl
      have := u32_and_nat (x / 2 ^ s) 1 (Nat.lt_of_le_of_lt (Nat.div_le_self _ _) XW.out) (by decide)
      rw [show ((1 : Nat) : Int) = 1 from rfl] at this
      rw [e2, this, Nat.and_one_is_mod, BX.out]
    by_cases hb : N / 2 ^ K % 2 = 0
    · have f2 : (Go.bits .and .u32 ((x : Int) / 2 ^ s) 1 == 0) = true := by rw [hand, hb]; rfl
      have HB := Lib.hid hb
      clear hb hand
      go_wp2_with fail
      refine ⟨⟨K + 1, by rw [Int.natCast_add]; rfl, by have := HK2.out; omega, mod_on HM.out HB.out⟩, ?_⟩
      have := HK2.out
      simp only [intOf]; omega
    · have f2 : (Go.bits .and .u32 ((x : Int) / 2 ^ s) 1 == 0) = false := by rw [hand, beq_eq_false_iff_ne]; omega
      have HB := Lib.hid hb
      clear hb hand
      go_wp2_with fail
      go_ret
      exact ⟨⟨K, rfl, .inr ⟨HM.out, by have := HB.out; omega⟩⟩, rfl⟩
end Go.Proofs.YtokmommlabdcdaaGreatDoor
set_option linter.unusedVariables false
set_option linter.unusedSimpArgs false
namespace Go.Proofs.YtokmommlabdcdaaGreatDoor
open Wd Fl Go.RowKit
set_option maxRecDepth 100000 in
set_option maxHeartbeats 4000000 in
theorem int64_any (bx ox : Nat) (n : Int) (w : World) (hx : IntAt TW w ⟨bx, ox, none⟩ n) (hn : n.natAbs < 9223372036854775808) :
    Calls Tryz.prog 14 #[.pointer (some ⟨bx, ox, none⟩)] w fun e w' => e = .returned (.int .i64 n) ∧ w = w' := by
  have UI := Lib.hid (uint64_any bx ox n w hx (by omega))
  obtain ⟨neg, a, cap, l, h1, h2, H3, OK, NM, HN, HE, HK, N1⟩ := IntAt.open hx
  obtain ⟨m, hm⟩ : ∃ m, n.natAbs = m := ⟨_, rfl⟩
  have hv : val l = m := by rw [← hm, HE.out, sgn_abs]
  have he := HE.out
  rw [hm] at UI hn
  have mI : (m : Int) < 9223372036854775808 := by omega
  unfold sgn at he
  rw [hv] at he
  clear hx hn hm hv HE HK HN H3 OK NM h2
  cases neg
  · simp only [Bool.false_eq_true, if_false] at he
    subst he
    go_enter Tryz.func14, Tryz.ntmps14
    go_wp2_with fail
    refine UI.out.mono ?_
    rintro e w' ⟨rfl, rfl⟩
    go_wp2_with fail
    go_ret
    exact ⟨rfl, rfl⟩
  · simp only [if_true] at he
    subst he
    go_enter Tryz.func14, Tryz.ntmps14
    go_wp2_with fail
    refine UI.out.mono ?_
    rintro e w' ⟨rfl, rfl⟩
    go_wp2_with fail
    go_ret
    exact ⟨ret_int (by first | rfl | omega), rfl⟩
set_option maxRecDepth 100000 in
set_option maxHeartbeats 4000000 in
theorem cmpAbs_any (bx ox bY oY : Nat) (n m : Int) (w : World) (hx : IntAt TW w ⟨bx, ox, none⟩ n) (hy : IntAt TW w ⟨bY, oY, none⟩ m) (hn : bl n ≤ 100000) (hm : bl m ≤ 100000) :
    Calls Tryz.prog 18 #[.pointer (some ⟨bx, ox, none⟩), .pointer (some ⟨bY, oY, none⟩)] w fun e w' => e = .returned (.int .i64 (cmpI n.natAbs m.natAbs)) ∧ Below w.heap.size w w' := by
  obtain ⟨neg, a, cap, l, h1, h2, H3, OK, NM, HN, HE, HK, N1⟩ := IntAt.open hx
  obtain ⟨neg2, a2, cap2, l2, h12, h22, H32, OK2, NM2, HN2, HE2, HK2, N12⟩ := IntAt.open hy
  have HLI : Hid (l.length ≤ 4611686018427387904) := Lib.hid (by have := HK.out _ hn; omega)
  have HLI2 : Hid (l2.length ≤ 4611686018427387904) := Lib.hid (by have := HK2.out _ hm; omega)
  have e1 : n.natAbs = val l := by rw [HE.out, sgn_abs]
  have e2 : m.natAbs = val l2 := by rw [HE2.out, sgn_abs]
  rw [e1, e2]
  obtain ⟨c, hc⟩ : ∃ c, cmpI (val l) (val l2) = c := ⟨_, rfl⟩
  rw [hc]
  have HC := Lib.hid hc
  clear hx hy hn hm e1 e2 h1 h12 hc
  go_enter Tryz.func18, Tryz.ntmps18
  (try go_wp2_with fail)
  (try go_quiet (fail))
  (try go_wp2_with fail)
  first
  | go_region_law (go_simp; go_at_call 51; refine (compare_any _ _ l l2 (w.drewN (nq + 1)) (H3.out.below (below_drewN (Below.refl _ w) (nq + 1))) (H32.out.below (below_drewN (Below.refl _ w) (nq + 1))) OK.out OK2.out NM.out NM2.out HLI.out HLI2.out).mono ?_; rintro e w5 ⟨rfl, hb5⟩; rw [HC.out]; have HB5 := Lib.hid ((below_drewN (Below.refl w.heap.size w) (nq + 1)).trans hb5); clear hb5)
  | go_region_law (go_simp; go_at_call 51; refine (compare_any _ _ l l2 w.drew (H3.out.below ((Below.refl _ w).drew)) (H32.out.below ((Below.refl _ w).drew)) OK.out OK2.out NM.out NM2.out HLI.out HLI2.out).mono ?_; rintro e w5 ⟨rfl, hb5⟩; rw [HC.out]; have HB5 := Lib.hid (((Below.refl w.heap.size w).drew).trans hb5); clear hb5)
  all_goals
    go_wp2_with fail
    go_ret
    exact ⟨rfl, HB5.out⟩
end Go.Proofs.YtokmommlabdcdaaGreatDoor
