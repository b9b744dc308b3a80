/- Contracts of surdbig's BitLen, and of Bit of the place 0. -/
import Derived.Test.YtokmommlabdcdaaSBig11
import Derived.Test.YtokmommlabdcdaaSBig7
import Derived.WalkSmall
set_option linter.unusedVariables false
set_option linter.unusedSimpArgs false
namespace Go.Proofs.Ytokmommlabdcdaa
open Wd Fl Go.RowKit
set_option linter.unusedVariables false
set_option linter.unusedSimpArgs false
set_option maxRecDepth 100000 in
set_option maxHeartbeats 4000000 in
theorem bitLen_any (bx ox : Nat) (n : Int) (w : World) (hx : IntAt TW w ⟨bx, ox, none⟩ n) (hn : bl n ≤ 100000) :
    Calls Try.prog 104 #[.pointer (some ⟨bx, ox, none⟩)] w fun e w' => e = .returned (.int .i64 (bl n : Nat)) ∧ Below w.heap.size w w' := by
  obtain ⟨neg, a, cap, l, h1, h2, H3, OK, NM, HN, HE, HK, N1⟩ := IntAt.open hx
  have e1 : bl n = blen (val l) := by unfold bl; rw [HE.out, sgn_abs]
  have hl := HK.out _ hn
  rw [e1]
  clear hx hn e1 HN HE HK h1
  by_cases h0 : l = []
  · subst h0
    simp only [List.length_nil] at h2
    rw [val_nil, blen_zero]
    clear H3 OK NM
    go_enter Try.func104, Try.ntmps104
    go_wp2
    go_ret
    exact ⟨rfl, Below.refl _ _⟩
  · obtain ⟨r, x, rfl⟩ := snoc_of_ne h0
    have hx0 := nm_snoc.1 NM.out
    have hxW : x < 4294967296 := OK.out x (by simp)
    rw [blen_words OK.out.left hx0]
    obtain ⟨e1, b, off, rfl, hc, ht, hf⟩ := wcell H3.out (by simp)
    have g1 := hf r.length (by simp)
    have hgx : (r ++ [x]).getD r.length 0 = x := by simp [List.getD_eq_getElem?_getD]
    rw [hgx] at g1
    have hlen : (r ++ [x]).length = r.length + 1 := by simp
    rw [hlen] at hl hc h2
    have p1 : ((r.length + 1 : Nat) : Int) - 1 = (r.length : Int) := by omega
    have p2 : (((r.length + 1 : Nat) : Int) == 0) = false := by rw [beq_eq_false_iff_ne]; omega
    have p3 : (r.length : Int) < ((r.length + 1 : Nat) : Int) := by omega
    have p4 : ((r.length + 1 : Nat) : Int) ≤ (cap : Int) := by omega
    have p5 : (r.length : Int) ≤ 100000 := by omega
    have HXW := Lib.hid hxW
    clear H3 OK NM h0 hx0 e1 hc ht hf hgx hlen hxW hl
    generalize r.length = n at *
    generalize n + 1 = m at *
    have p6 : (0 : Int) ≤ (n : Int) := by omega
    have p7 : IntKind.i64.wrap ((m : Int) - 1) = (n : Int) := by rw [p1]; exact IntWalk.i64_in _ (by omega)
    go_enter Try.func104, Try.ntmps104
    go_wp2_with fail
    go_quiet (fail)
    go_wp2_with fail
    clear p7
    go_loop [3, 4] (fun sk sw => ∃ (j : Nat) (Y : Int), sw = .int .u32 Y ∧ sk = .int .i64 (32 * (n : Int) + j) ∧ BitV x j Y) (fun sk _ => (32 * (n : Int) + 32 - intOf sk).toNat)
    case atStart => exact ⟨0, x, rfl, by go_num, .start x⟩
    case round =>
      obtain ⟨j, Y, rfl, rfl, hv⟩ := hrel
      have hj := hv.2.2
      have hY0 := hv.pos
      have hYW := hv.lt HXW.out
      have hjI : (j : Int) ≤ 32 := by omega
      have HV := Lib.hid hv
      clear hv hj
      by_cases hY : 0 < Y
      · have hst := HV.out.step HXW.out hY
        have HST := Lib.hid hst
        clear hst
        go_wp2
        go_round
        case rel => exact ⟨j + 1, Y / 2, rfl, by go_num, HST.out.1⟩
        case measure => have := HST.out.2; simp [intOf]; omega
      · have hd := HV.out.done hY
        have HD := Lib.hid hd
        clear hd
        go_wp2
        go_ret
        exact ⟨ret_int (by rw [HD.out]), below_drewN (Below.refl _ _) _⟩
set_option maxRecDepth 100000 in
set_option maxHeartbeats 4000000 in
theorem bit0_any (bx ox : Nat) (n : Int) (w : World) (hx : IntAt TW w ⟨bx, ox, none⟩ n) (hn : bl n ≤ 100000) :
    Calls Try.prog 106 #[.pointer (some ⟨bx, ox, none⟩), .int .i64 0] w fun e w' => e = .returned (.int .u64 (n.natAbs % 2 : Nat)) ∧ w = w' := by
  obtain ⟨neg, a, cap, l, h1, h2, H3, OK, NM, HN, HE, HK, N1⟩ := IntAt.open hx
  have e1 : n.natAbs = val l := by rw [HE.out, sgn_abs]
  have hl := HK.out _ hn
  rw [e1]
  clear hx hn e1 HN HE HK h1
  cases l with
  | nil =>
    simp only [List.length_nil] at h2
    clear H3 OK NM
    go_enter Try.func106, Try.ntmps106
    go_wp2
    go_ret
    exact ⟨rfl, rfl⟩
  | cons x r =>
    obtain ⟨e1, b, off, rfl, hc, ht, hf⟩ := wcell H3.out (by simp)
    have g1 := hf 0 (by simp)
    simp only [Nat.add_zero, List.getD_cons_zero] at g1
    have hxW : x < 4294967296 := OK.out x (by simp)
    have hand : Go.bits .and .u32 (x : Int) 1 = (x : Int) % 2 := by
      have := u32_and_nat x 1 hxW (by decide)
      rw [show ((1 : Nat) : Int) = 1 from rfl] at this
      rw [this, Nat.and_one_is_mod, Int.natCast_emod]; rfl
    have hxI : (x : Int) < 4294967296 := by omega
    have hm : (val (x :: r) % 2 : Nat) = x % 2 := by rw [val_cons]; omega
    rw [hm]
    obtain ⟨m, hM⟩ : ∃ m, (x :: r).length = m := ⟨_, rfl⟩
    rw [hM] at h2 hl hc
    have p1 : 0 < m := by rw [← hM]; simp
    have p2 : (m : Int) ≤ (cap : Int) := by omega
    have p3 : ¬ m = 0 := by omega
    have HXW := Lib.hid hxW
    clear H3 OK NM e1 hc ht hf hxW hl hm hM
    go_enter Try.func106, Try.ntmps106
    go_wp2
    go_ret
    refine ⟨ret_int ?_, rfl⟩
    rw [and_one_u64 _ (by omega) (by omega)]; omega
end Go.Proofs.Ytokmommlabdcdaa
