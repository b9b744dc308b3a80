/- The contract of surdlaw5.whole, and of the conversion of a whole number's float back. -/
import Derived.Test.YtmfmgofafamemaaCpx
import Derived.Test.YtmfmgofafamemaaFlSums
namespace Go.Proofs.Ytmfmgofafamemaa
open Fl Go.RowKit

/-- the whole number of a word, and its float -/
def whI (n : Nat) : Int := ((n % 16777216 : Nat) : Int) - 8388608
def wh (n : Nat) : Nat := floatOfInt .f64 (whI n)
theorem whI_bound (n : Nat) : (whI n).natAbs ≤ 2 ^ 23 := by unfold whI; omega
theorem wh_isI (n : Nat) : IsI (wh n) (whI n) := IsI.ofInt _ (by have := whI_bound n; omega)
theorem whole_any (n : Nat) (hn : n < 2 ^ 64) (w : World) :
    Calls Try.prog 23 #[.int .u64 n] w fun e w' => e = .returned (.float .f64 (wh n)) ∧ w = w' := by
  have h1 : (0 : Int) ≤ (n : Int) := by omega
  have hw : wh n = floatOfInt .f64 (((n % 16777216 : Nat) : Int) - 8388608) := rfl
  have HW := Lib.hid hw; clear hw hn
  go_enter Try.func23, Try.ntmps23
  go_wp2
  go_ret
  refine ⟨ret_float ?_, rfl⟩
  rw [HW.out]
  rfl
theorem conv_isI {x : Nat} {m : Int} (h : IsI x m) (hb : m.natAbs < 2 ^ 63) (w : World) : (convert 28 2 (.float .f64 x)).run Try.prog w = .ok (.int .i64 m) w :=
  run_convert_float_int w 28 2 .f64 .i64 x m (by kernel_rfl) Try.underlying2 (h.toInt hb)
/-- the numbers that CpxOrders makes of pairs of words -/
def whC (z : Cpx) : Cpx := (wh z.1, wh z.2)
theorem nth_map_whC (bs : List Cpx) (k : Nat) (hk : k < bs.length) : nth (bs.map whC) k = whC (nth bs k) := by
  simp [nth, List.getD_eq_getElem?_getD, hk]
/-- the sums of the first k -/
def reS (bs : List Cpx) (k : Nat) : Int := ((bs.take k).map fun z => whI z.1).sum
def imS (bs : List Cpx) (k : Nat) : Int := ((bs.take k).map fun z => whI z.2).sum
theorem intL_take (bs : List Cpx) (k : Nat) : IntL ((bs.take k).map whC) (reS bs k) (imS bs k) := by
  unfold reS imS
  induction bs.take k with
  | nil => exact .nil
  | cons z r ih =>
    simp only [List.map_cons, List.sum_cons]
    exact .cons _ _ _ _ _ _ (wh_isI _) (wh_isI _) (whI_bound _) (whI_bound _) ih
theorem reS_succ (bs : List Cpx) (k : Nat) (hk : k < bs.length) : reS bs (k + 1) = reS bs k + whI (nth bs k).1 := by
  unfold reS
  rw [List.take_succ_eq_append_getElem hk, List.map_append, List.sum_append]
  have : nth bs k = bs[k] := by simp [nth, List.getD_eq_getElem?_getD, hk]
  rw [this]; simp
theorem imS_succ (bs : List Cpx) (k : Nat) (hk : k < bs.length) : imS bs (k + 1) = imS bs k + whI (nth bs k).2 := by
  unfold imS
  rw [List.take_succ_eq_append_getElem hk, List.map_append, List.sum_append]
  have : nth bs k = bs[k] := by simp [nth, List.getD_eq_getElem?_getD, hk]
  rw [this]; simp
theorem sums_bound (bs : List Cpx) (k : Nat) : (reS bs k).natAbs ≤ k * 2 ^ 23 ∧ (imS bs k).natAbs ≤ k * 2 ^ 23 := by
  have := (intL_take bs k).bound
  have l : ((bs.take k).map whC).length ≤ k := by rw [List.length_map]; exact List.length_take_le _ _
  exact ⟨Nat.le_trans this.1 (Nat.mul_le_mul_right _ l), Nat.le_trans this.2 (Nat.mul_le_mul_right _ l)⟩
end Go.Proofs.Ytmfmgofafamemaa
