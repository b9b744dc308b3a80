/- Contracts of package ieee's parts and Exact: a float taken apart. -/
import Derived.Test.YtokmommlabdcdaaGreatDoorVFmt
import Derived.Test.YtokmommlabdcdaaGreatDoorVBig36
import Derived.Test.YtokmommlabdcdaaGreatDoorVFlOdd
import Derived.Laws.Concat
set_option linter.unusedVariables false
set_option linter.unusedSimpArgs false
set_option linter.unusedVariables false
set_option linter.unusedSimpArgs false
namespace Go.Proofs.YtokmommlabdcdaaGreatDoor
open Wd Fl Go.RowKit Go.Joins
theorem wrapE1 {E : Nat} (h : E < 2047) : RowKit.wrap64 (E : Int) = (E : Int) := w64 _ (by omega) (by omega)
theorem wrapE2 {E : Nat} (h : E < 2047) : RowKit.wrap64 ((E : Int) - 1075) = (E : Int) - 1075 := w64 _ (by omega) (by omega)
theorem parts_any (x : Nat) (hx : x < 2 ^ 64) (hf : fin x) (w : World) :
    Calls Tryz.prog 33 #[.float .f64 x] w fun e w' => e = .returned (.tuple #[.int .u64 (mant x), .int .i64 ((plc x : Int) - 1075)]) ∧ w = w' := by
  have SZ := Lib.hid (size_any x hx)
  have hr := rg_lt x
  have mo : x % 2 ^ 52 = rg x % 2 ^ 52 := by unfold rg; omega
  by_cases h : rg x / 2 ^ 52 = 0
  · have e1 : mant x = rg x := by unfold mant; rw [if_pos h, mo]; omega
    have e2 : plc x = 1 := by unfold plc; rw [if_pos h]
    rw [e1, e2]
    have c : decide ((rg x : Int) ≤ 4503599627370495) = true := decide_eq_true (by omega)
    generalize rg x = r at *
    clear hx hf e1 e2 mo h hr
    go_enter Tryz.func33, Tryz.ntmps33
    go_wp2_with fail
    refine (SZ.out _).mono ?_
    rintro e w' ⟨rfl, rfl⟩
    go_wp2_with fail
    go_ret2
    exact ⟨rfl, rfl⟩
  · have e1 : mant x = 2 ^ 52 + x % 2 ^ 52 := by unfold mant; rw [if_neg h]
    have e2 : plc x = rg x / 2 ^ 52 := by unfold plc; rw [if_neg h]
    rw [e1, e2]
    have c : decide ((rg x : Int) ≤ 4503599627370495) = false := decide_eq_false (by omega)
    have m1 : bits .and .u64 (rg x : Int) 4503599627370495 = ((x % 2 ^ 52 : Nat) : Int) := by rw [mo]; exact man_field (by omega)
    have m2 := u64_or_top (m := x % 2 ^ 52) (Nat.mod_lt _ (by decide))
    have q : (rg x : Int) / 4503599627370496 = ((rg x / 2 ^ 52 : Nat) : Int) := by omega
    have qb : rg x / 2 ^ 52 < 2047 := by unfold fin INF at hf; omega
    obtain ⟨E, hE⟩ : ∃ E : Nat, rg x / 2 ^ 52 = E := ⟨_, rfl⟩
    rw [hE] at q qb ⊢
    obtain ⟨M, hM⟩ : ∃ M : Nat, 2 ^ 52 + x % 2 ^ 52 = M := ⟨_, rfl⟩
    rw [hM] at m2 ⊢
    clear hM e1 e2 hE mo h hf
    have w1 : RowKit.wrap64 (E : Int) = (E : Int) := wrapE1 qb
    have w2 : RowKit.wrap64 ((E : Int) - 1075) = (E : Int) - 1075 := wrapE2 qb
    generalize x % 2 ^ 52 = m at *
    generalize rg x = r at *
    clear hx hr
    go_enter Tryz.func33, Tryz.ntmps33
    go_wp2_with fail
    refine (SZ.out _).mono ?_
    rintro e w' ⟨rfl, rfl⟩
    go_wp2_with fail
    go_ret2
    exact ⟨rfl, rfl⟩
/-- what Exact answers: a numeral and an exponent, and a code -/
def ExRet (s : ByteArray) (e : Int) (code : Int) (w : World) (en : Ending) (w' : World) : Prop := en = .returned (.tuple #[.agg #[.string s, .int .i64 e], .int .i64 code]) ∧ Below w.heap.size w w'
set_option maxRecDepth 100000 in
set_option maxHeartbeats 2000000 in
theorem exact_none (x : Nat) (hx : x < 2 ^ 64) (hf : ¬ fin x) (w : World) :
    Calls Tryz.prog 6 #[.float .f64 x] w (ExRet ⟨#[]⟩ 0 20 w) := by
  have SZ := Lib.hid (size_any x hx)
  have c : decide ((9218868437227405312 : Int) ≤ (rg x : Int)) = true := decide_eq_true (by unfold fin INF at hf; omega)
  generalize rg x = r at *
  clear hx hf
  go_enter Tryz.func6, Tryz.ntmps6
  go_wp2_with fail
  refine (SZ.out _).mono ?_
  rintro e w' ⟨rfl, rfl⟩
  go_wp2_with fail
  refine bodyPost_ret (v := .tuple #[.agg #[.string ⟨#[]⟩, .int .i64 0], .int .i64 20]) ?_ rfl ⟨rfl, below_alloc w _⟩
  rw [results_cell_tmp rfl]
  go_simp
set_option maxRecDepth 100000 in
set_option maxHeartbeats 2000000 in
theorem exact_zero (x : Nat) (hx : x < 2 ^ 64) (hf : fin x) (h0 : mant x = 0) (w : World) :
    Calls Tryz.prog 6 #[.float .f64 x] w (ExRet ⟨#[48]⟩ 0 0 w) := by
  have SZ := Lib.hid (size_any x hx)
  have PA := Lib.hid (parts_any x hx hf)
  rw [h0] at PA
  have c : decide ((9218868437227405312 : Int) ≤ (rg x : Int)) = false := decide_eq_false (by unfold fin INF at hf; omega)
  obtain ⟨P, hP⟩ : ∃ P : Int, (plc x : Int) - 1075 = P := ⟨_, rfl⟩
  rw [hP] at PA
  generalize rg x = r at *
  clear hx hf h0 hP
  go_enter Tryz.func6, Tryz.ntmps6
  go_wp2_with fail
  refine (SZ.out _).mono ?_
  rintro e w' ⟨rfl, rfl⟩
  go_wp2_with fail
  refine (PA.out _).mono ?_
  rintro e w' ⟨rfl, rfl⟩
  go_wp2_with fail
  refine bodyPost_ret (v := .tuple #[.agg #[.string ⟨#[48]⟩, .int .i64 0], .int .i64 0]) ?_ rfl ⟨rfl, below_alloc w _⟩
  rw [results_cell_tmp rfl]
  go_simp
set_option maxRecDepth 100000 in
set_option maxHeartbeats 4000000 in
theorem exact_some (x : Nat) (hx : x < 2 ^ 64) (hf : fin x) (h0 : mant x ≠ 0) (w : World) (hT : Tabs w) :
    ∃ d e, OddV x d e ∧ d.natAbs < 2 ^ 53 ∧ Calls Tryz.prog 6 #[.float .f64 x] w (ExRet (sv (Lib.itoa d)) e 0 w) := by
  have hm := mant_lt x
  have hp := plc_le hf
  obtain ⟨k, q, hk, hmk, TZ'⟩ := tz_any (mant x) (by omega) h0 (w.alloc (.cells #[.string ⟨#[]⟩, .int .i64 0] 26)) (hT.below (below_alloc w _)).1
  obtain ⟨c, hc⟩ : ∃ c, 2 * q + 1 = c := ⟨_, rfl⟩
  have hc1 : c % 2 = 1 := by omega
  rw [hc] at hmk
  have hcle : c ≤ mant x := by rw [hmk]; exact Nat.le_mul_of_pos_left _ (Nat.two_pow_pos k)
  have hsh : mant x / 2 ^ k = c := by rw [hmk]; exact Nat.mul_div_cancel_left _ (Nat.two_pow_pos k)
  have shI : (mant x : Int) / 2 ^ k = (c : Int) := by
    have e : ((2 : Int) ^ k) = ((2 ^ k : Nat) : Int) := by simp
    rw [e, ← Int.natCast_ediv, hsh]
  have FM := Lib.hid (fun W (h : Tabs W) => fmt_any c (by omega) W h)
  have SZ := Lib.hid (size_any x hx)
  have PA := Lib.hid (parts_any x hx hf)
  have st := sign_test x hx
  have cI : decide ((9218868437227405312 : Int) ≤ (rg x : Int)) = false := decide_eq_false (by unfold fin INF at hf; omega)
  have h3 := f64bits_run
  have mz : ((mant x : Int) == 0) = false := by rw [beq_eq_false_iff_ne]; omega
  have w1 : RowKit.wrap64 ((plc x : Int) - 1075 + (k : Int)) = (plc x : Int) - 1075 + (k : Int) := w64 _ (by omega) (by omega)
  have TB := Lib.hid (hT.below (below_alloc w (.cells #[.string ⟨#[]⟩, .int .i64 0] 26)))
  have TZ := Lib.hid TZ'
  have kI : (k : Int) < 64 := by omega
  have mI : (mant x : Int) < 9007199254740992 := by omega
  cases hs : sg x
  · refine ⟨(c : Int), (k : Int) + plc x - 1075, ⟨by omega, by rw [hs]; constructor; omega; simp, k, by rw [Int.natAbs_natCast]; exact hmk, rfl⟩, by omega, ?_⟩
    rw [hs] at st
    rw [Lib.itoa_nonneg, show (k : Int) + (plc x : Int) - 1075 = (plc x : Int) - 1075 + (k : Int) by omega]
    obtain ⟨P, hP⟩ : ∃ P : Int, (plc x : Int) - 1075 = P := ⟨_, rfl⟩
    rw [hP] at PA w1 ⊢
    unfold StrRet at FM
    generalize mant x = M at *
    generalize rg x = R at *
    clear TZ'
    generalize sv (Lib.decDigits c) = s at *
    clear hx hf h0 hT hm hp hmk hc hc1 hcle hsh hs hP hk
    go_enter Tryz.func6, Tryz.ntmps6
    go_wp2_with fail
    refine (SZ.out _).mono ?_
    rintro e w' ⟨rfl, rfl⟩
    go_wp2_with fail
    refine (PA.out _).mono ?_
    rintro e w' ⟨rfl, rfl⟩
    go_wp2_with fail
    refine TZ.out.mono ?_
    rintro e w' ⟨rfl, rfl⟩
    go_wp2_with fail
    refine (FM.out _ TB.out).mono ?_
    rintro e w1 ⟨rfl, hb⟩
    have HR : w1.heap[w.heap.size]? = some (.cells #[.string ⟨#[]⟩, .int .i64 0] 26 (0, 0)) := (hb.block w.heap.size (by simp)).trans (heap_alloc_new w _)
    have C0 : w1.cell? ⟨w.heap.size, 0, none⟩ = some (.string ⟨#[]⟩) := by rw [cell_of_row _ _ _ _ _ _ HR]; rfl
    have C1 : w1.cell? ⟨w.heap.size, 1, none⟩ = some (.int .i64 0) := by rw [cell_of_row _ _ _ _ _ _ HR]; rfl
    have F0 := frozen_of_row w1 w.heap.size 0 _ _ HR
    have F1 := frozen_of_row w1 w.heap.size 1 _ _ HR
    have B1 := Lib.hid ((below_alloc w (.cells #[.string ⟨#[]⟩, .int .i64 0] 26)).trans (hb.mono (by simp)))
    have HRh := Lib.hid HR
    clear hb HR
    go_wp2_with fail
    refine bodyPost_ret (v := .tuple #[.agg #[.string s, .int .i64 (P + (k : Int))], .int .i64 0]) ?_ rfl ⟨rfl, (B1.out.setCell (Nat.le_refl _) _).setCell (Nat.le_refl _) _⟩
    rw [results_cell_tmp rfl]
    have H1 := heap_setCell_same w1 w.heap.size 0 _ _ (.string s) HRh.out
    have H2 := heap_setCell_same _ w.heap.size 1 _ _ (.int .i64 (P + (k : Int))) H1
    have D0 := cell_of_row _ w.heap.size 0 _ _ _ H2
    have D1 := cell_of_row _ w.heap.size 1 _ _ _ H2
    simp at D0 D1
    go_simp
  · have dl : (Lib.decDigits c).length ≤ 20 := by rw [Lib.decDigits_length]; exact Lib.nDigits_le20 c (by omega)
    have ADD : ∀ W, (Op.stringOp .add ⟨#[45]⟩ (sv (Lib.decDigits c))).run Tryz.prog W = .ok (.string (sv (45 :: Lib.decDigits c))) W := fun W => run_string_add_lists W [45] (Lib.decDigits c) (by simp) (by omega)
    refine ⟨-(c : Int), (k : Int) + plc x - 1075, ⟨by omega, by rw [hs]; constructor; simp; omega, k, by rw [Int.natAbs_neg, Int.natAbs_natCast]; exact hmk, rfl⟩, by omega, ?_⟩
    rw [hs] at st
    rw [Lib.itoa_neg c (by omega), show (k : Int) + (plc x : Int) - 1075 = (plc x : Int) - 1075 + (k : Int) by omega]
    obtain ⟨P, hP⟩ : ∃ P : Int, (plc x : Int) - 1075 = P := ⟨_, rfl⟩
    rw [hP] at PA w1 ⊢
    unfold StrRet at FM
    generalize mant x = M at *
    generalize rg x = R at *
    clear TZ'
    generalize sv (45 :: Lib.decDigits c) = s2 at *
    generalize sv (Lib.decDigits c) = s at *
    clear hx hf h0 hT hm hp hmk hc hc1 hcle hsh hs hP hk dl
    go_enter Tryz.func6, Tryz.ntmps6
    go_wp2_with fail
    refine (SZ.out _).mono ?_
    rintro e w' ⟨rfl, rfl⟩
    go_wp2_with fail
    refine (PA.out _).mono ?_
    rintro e w' ⟨rfl, rfl⟩
    go_wp2_with fail
    refine TZ.out.mono ?_
    rintro e w' ⟨rfl, rfl⟩
    go_wp2_with fail
    refine (FM.out _ TB.out).mono ?_
    rintro e w1 ⟨rfl, hb⟩
    have HR : w1.heap[w.heap.size]? = some (.cells #[.string ⟨#[]⟩, .int .i64 0] 26 (0, 0)) := (hb.block w.heap.size (by simp)).trans (heap_alloc_new w _)
    have C0 : w1.cell? ⟨w.heap.size, 0, none⟩ = some (.string ⟨#[]⟩) := by rw [cell_of_row _ _ _ _ _ _ HR]; rfl
    have C1 : w1.cell? ⟨w.heap.size, 1, none⟩ = some (.int .i64 0) := by rw [cell_of_row _ _ _ _ _ _ HR]; rfl
    have F0 := frozen_of_row w1 w.heap.size 0 _ _ HR
    have F1 := frozen_of_row w1 w.heap.size 1 _ _ HR
    have B1 := Lib.hid ((below_alloc w (.cells #[.string ⟨#[]⟩, .int .i64 0] 26)).trans (hb.mono (by simp)))
    have HRh := Lib.hid HR
    clear hb HR
    go_wp2_with fail
    refine bodyPost_ret (v := .tuple #[.agg #[.string s2, .int .i64 (P + (k : Int))], .int .i64 0]) ?_ rfl ⟨rfl, (B1.out.setCell (Nat.le_refl _) _).setCell (Nat.le_refl _) _⟩
    rw [results_cell_tmp rfl]
    have H1 := heap_setCell_same w1 w.heap.size 0 _ _ (.string s2) HRh.out
    have H2 := heap_setCell_same _ w.heap.size 1 _ _ (.int .i64 (P + (k : Int))) H1
    have D0 := cell_of_row _ w.heap.size 0 _ _ _ H2
    have D1 := cell_of_row _ w.heap.size 1 _ _ _ H2
    simp at D0 D1
    go_simp
end Go.Proofs.YtokmommlabdcdaaGreatDoor
