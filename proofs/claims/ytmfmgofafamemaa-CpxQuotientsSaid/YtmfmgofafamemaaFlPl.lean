/- The row of all floats: places, neighbours, the order. -/
import Derived.Test.YtmfmgofafamemaaFlList
namespace Fl
open Go Ieee

/-- The order of two that are numbers is that of their values (an infinity counts as the value behind the greatest). -/
theorem order_num {x y : Nat} (nx : ¬ isNan x) (ny : ¬ isNan y) : D.order x y = some (compare (iv x) (iv y)) := by
  have hv : ∀ z, iv z = if sg z then -(valR (rg z) : Int) else (valR (rg z) : Int) := fun _ => rfl
  rcases cases3 x with hx | hx | hx
  · rcases cases3 y with hy | hy | hy
    · exact order_fin x y hx hy
    · obtain ⟨m, i, e, _⟩ := read_fin x hx
      have lt : valR (rg x) < valR INF := valR_lt hx
      unfold Format.order
      rw [e, read_inf y hy, hv x, hv y, hy]
      generalize valR INF = V at lt ⊢
      cases hs : sg x <;> cases ht : sg y <;> simp only [Datum.order] <;> congr 1 <;> symm <;> simp <;> first | (rw [Int.compare_eq_lt]; omega) | (rw [Int.compare_eq_gt]; omega)
    · exact absurd hy ny
  · rcases cases3 y with hy | hy | hy
    · obtain ⟨m, i, e, _⟩ := read_fin y hy
      have lt : valR (rg y) < valR INF := valR_lt hy
      unfold Format.order
      rw [e, read_inf x hx, hv x, hv y, hx]
      generalize valR INF = V at lt ⊢
      cases hs : sg x <;> cases ht : sg y <;> simp only [Datum.order] <;> congr 1 <;> symm <;> simp <;> first | (rw [Int.compare_eq_lt]; omega) | (rw [Int.compare_eq_gt]; omega)
    · have lt : valR 0 < valR INF := valR_lt (by decide)
      unfold Format.order
      rw [read_inf x hx, read_inf y hy, hv x, hv y, hx, hy]
      generalize valR INF = V at lt ⊢
      cases hs : sg x <;> cases ht : sg y <;> simp only [Datum.order] <;> congr 1 <;> symm <;> simp <;> first | (rw [Int.compare_eq_lt]; omega) | (rw [Int.compare_eq_gt]; omega) | (rw [Int.compare_eq_eq]) | (refine Eq.trans ?_ (show Ordering.gt = _ from rfl); rw [Int.compare_eq_gt]; omega) | (refine Eq.trans ?_ (show Ordering.lt = _ from rfl); rw [Int.compare_eq_lt]; omega)
    · exact absurd hy ny
  · exact absurd hx nx

theorem order_none {x y : Nat} (h : isNan x ∨ isNan y) : D.order x y = none := by
  unfold Format.order
  rcases h with h | h
  · obtain ⟨t, e⟩ := read_nan x h; rw [e]; rfl
  · obtain ⟨t, e⟩ := read_nan y h; rw [e]; cases D.read x <;> rfl

theorem iv_lt {x y : Nat} : iv x < iv y → pl x < pl y := by
  have lt : ∀ {r s : Nat}, valR r < valR s ↔ r < s := valR_lt_iff
  unfold iv pl mv
  intro h
  cases hs : sg x <;> cases ht : sg y <;> simp only [hs, ht] at h ⊢ <;> simp only [if_true, Bool.false_eq_true, if_false] at h ⊢
  · have := (lt (r := rg x) (s := rg y)).1 (by omega); omega
  · omega
  · omega
  · have := (lt (r := rg y) (s := rg x)).1 (by omega); omega

theorem iv_eq {x y : Nat} (h : iv x = iv y) : pl x = pl y ∨ (rg x = 0 ∧ rg y = 0) := by
  have lt : ∀ {r s : Nat}, valR r = valR s → r = s := fun h => valR_inj h
  have z : ∀ {r : Nat}, valR r = 0 → r = 0 := fun h => valR_inj (h.trans valR_zero.symm)
  unfold iv mv at h
  unfold pl
  cases hs : sg x <;> cases ht : sg y <;> simp only [hs, ht] at h ⊢ <;> simp only [if_true, Bool.false_eq_true, if_false] at h ⊢
  · exact .inl (by rw [lt (r := rg x) (s := rg y) (by omega)])
  · exact .inr ⟨z (by omega), z (by omega)⟩
  · exact .inr ⟨z (by omega), z (by omega)⟩
  · exact .inl (by rw [lt (r := rg x) (s := rg y) (by omega)])

def plT (x : Nat) : Int := if isNan x then 9223372036854775807 else pl x
theorem plT_nan {x : Nat} (h : isNan x) : plT x = 9223372036854775807 := by unfold plT; rw [if_pos h]
theorem plT_num {x : Nat} (h : ¬ isNan x) : plT x = pl x := by unfold plT; rw [if_neg h]
theorem pl_num {x : Nat} (h : ¬ isNan x) : -9218868437227405313 ≤ pl x ∧ pl x ≤ 9218868437227405312 := by
  have hr : rg x ≤ 9218868437227405312 := by unfold isNan INF at h; omega
  unfold pl; split <;> omega
theorem plT_bounds (x : Nat) : -9223372036854775808 ≤ plT x ∧ plT x ≤ 9223372036854775807 := by
  by_cases h : isNan x
  · rw [plT_nan h]; omega
  · rw [plT_num h]; have := pl_num h; omega
theorem plT_eq {x y : Nat} (hx : x < 2 ^ 64) (hy : y < 2 ^ 64) : plT x = plT y ↔ Same x y := by
  by_cases h : isNan x
  · by_cases g : isNan y
    · rw [plT_nan h, plT_nan g]; exact ⟨fun _ => .inr ⟨h, g⟩, fun _ => rfl⟩
    · rw [plT_nan h, plT_num g]
      have := pl_num g
      exact ⟨fun e => by omega, fun e => by rcases e with rfl | e; exact absurd h g; exact absurd e.2 g⟩
  · by_cases g : isNan y
    · rw [plT_num h, plT_nan g]
      have := pl_num h
      exact ⟨fun e => by omega, fun e => by rcases e with rfl | e; exact absurd g h; exact absurd e.1 h⟩
    · rw [plT_num h, plT_num g]
      exact ⟨fun e => .inl (pl_inj hx hy e), fun e => by rcases e with rfl | e; rfl; exact absurd e.1 h⟩
def ordI (x y : Nat) : Int := if plT x < plT y then -1 else if plT y < plT x then 1 else 0

/-- the word at a place -/
def ofPl (p : Int) : Nat := if p < 0 then 2 ^ 63 + (-1 - p).toNat else p.toNat
theorem ofPl_lt {p : Int} (h1 : -9223372036854775808 ≤ p) (h2 : p < 9223372036854775808) : ofPl p < 2 ^ 64 := by unfold ofPl; split <;> omega
theorem pl_ofPl {p : Int} (h1 : -9223372036854775808 ≤ p) (h2 : p < 9223372036854775808) : pl (ofPl p) = p := by
  unfold ofPl pl sg rg
  split
  · rw [show ((2 ^ 63 + (-1 - p).toNat) / 2 ^ 63 % 2 == 1) = true by rw [beq_iff_eq]; omega]
    simp only [if_true]; omega
  · rw [show (p.toNat / 2 ^ 63 % 2 == 1) = false by rw [beq_eq_false_iff_ne]; omega]
    simp only [Bool.false_eq_true, if_false]; omega
theorem ofPl_pl {x : Nat} (h : x < 2 ^ 64) : ofPl (pl x) = x :=
  pl_inj (ofPl_lt (pl_bounds x).1 (pl_bounds x).2) h (pl_ofPl (pl_bounds x).1 (pl_bounds x).2)
theorem num_of_pl {x : Nat} (h1 : -9218868437227405313 ≤ pl x) (h2 : pl x ≤ 9218868437227405312) : ¬ isNan x := by
  unfold isNan INF; unfold pl at h1 h2; split at h1 <;> simp_all <;> omega
/-- the next one -/
def nxt (x : Nat) : Nat := if isNan x ∨ pl x = 9218868437227405312 then x else ofPl (pl x + 1)
def prv (x : Nat) : Nat := if isNan x ∨ pl x = -9218868437227405313 then x else ofPl (pl x - 1)
theorem nxt_nan {x : Nat} (h : isNan x) : nxt x = x := by unfold nxt; rw [if_pos (.inl h)]
theorem prv_nan {x : Nat} (h : isNan x) : prv x = x := by unfold prv; rw [if_pos (.inl h)]
theorem nxt_end {x : Nat} (h : pl x = 9218868437227405312) : nxt x = x := by unfold nxt; rw [if_pos (.inr h)]
theorem prv_end {x : Nat} (h : pl x = -9218868437227405313) : prv x = x := by unfold prv; rw [if_pos (.inr h)]
theorem nxt_num {x : Nat} (h : ¬ isNan x) (h2 : pl x ≠ 9218868437227405312) : nxt x < 2 ^ 64 ∧ pl (nxt x) = pl x + 1 ∧ ¬ isNan (nxt x) := by
  have b := pl_num h
  unfold nxt
  rw [if_neg (by rintro (h' | h'); exact h h'; exact h2 h')]
  have e := pl_ofPl (p := pl x + 1) (by omega) (by omega)
  exact ⟨ofPl_lt (by omega) (by omega), e, num_of_pl (by omega) (by omega)⟩
theorem prv_num {x : Nat} (h : ¬ isNan x) (h2 : pl x ≠ -9218868437227405313) : prv x < 2 ^ 64 ∧ pl (prv x) = pl x - 1 ∧ ¬ isNan (prv x) := by
  have b := pl_num h
  unfold prv
  rw [if_neg (by rintro (h' | h'); exact h h'; exact h2 h')]
  have e := pl_ofPl (p := pl x - 1) (by omega) (by omega)
  exact ⟨ofPl_lt (by omega) (by omega), e, num_of_pl (by omega) (by omega)⟩
theorem nxt_lt {x : Nat} (h : x < 2 ^ 64) : nxt x < 2 ^ 64 := by
  unfold nxt; split
  · exact h
  · rename_i c
    have := pl_num (x := x) (fun e => c (.inl e))
    exact ofPl_lt (by omega) (by omega)
theorem prv_lt {x : Nat} (h : x < 2 ^ 64) : prv x < 2 ^ 64 := by
  unfold prv; split
  · exact h
  · rename_i c
    have := pl_num (x := x) (fun e => c (.inl e))
    exact ofPl_lt (by omega) (by omega)
/-- the distance to the next one away from zero -/
def ulpW (x : Nat) : Nat := if ¬ fin x then NANQ else if rg x / 2 ^ 52 ≤ 52 then 2 ^ (rg x / 2 ^ 52 - 1) else (rg x / 2 ^ 52 - 52) * 2 ^ 52
theorem order_pl {x y : Nat} (nx : ¬ isNan x) (ny : ¬ isNan y) (h0 : ¬ (rg x = 0 ∧ rg y = 0)) :
    (D.order x y = some .gt ↔ pl y < pl x) ∧ (D.order x y = some .lt ↔ pl x < pl y) ∧ (D.order x y = some .eq ↔ pl x = pl y) := by
  rw [order_num nx ny]
  have tri : iv x < iv y ∨ iv x = iv y ∨ iv y < iv x := by omega
  rcases tri with h | h | h
  · have p := iv_lt h
    rw [Int.compare_eq_lt.2 h]
    simp only [Option.some.injEq, reduceCtorEq, false_iff, true_iff]
    omega
  · have p : pl x = pl y := (iv_eq h).resolve_right h0
    rw [Int.compare_eq_eq.2 h]
    simp only [Option.some.injEq, reduceCtorEq, false_iff, true_iff]
    omega
  · have p := iv_lt h
    rw [Int.compare_eq_gt.2 h]
    simp only [Option.some.injEq, reduceCtorEq, false_iff, true_iff]
    omega
theorem beq_dec {o : Option Ordering} {c : Ordering} {p : Prop} [Decidable p] (h : o = some c ↔ p) : (o == some c) = decide p := by
  by_cases g : p
  · rw [decide_eq_true g, h.2 g]; cases c <;> rfl
  · rw [decide_eq_false g, beq_eq_false_iff_ne]; exact fun e => g (h.1 e)
/-- 'x > MaxFloat64' -/
theorem gt_max {x : Nat} (hx : x < 2 ^ 64) : (Go.FloatKind.f64.format.order x 9218868437227405311 == some Ordering.gt) = decide (x = INF) := by
  refine beq_dec ?_
  show D.order x 9218868437227405311 = some .gt ↔ x = INF
  have p2 : pl 9218868437227405311 = 9218868437227405311 := by decide
  have pI : pl INF = 9218868437227405312 := by decide
  by_cases nx : isNan x
  · rw [order_none (.inl nx)]
    exact ⟨fun e => (by cases e), fun e => by subst e; exact absurd nx (by decide)⟩
  · rw [(order_pl nx (by decide) (fun h => absurd h.2 (by decide))).1, p2]
    have := pl_num nx
    exact ⟨fun h => pl_inj hx (by decide) (by rw [pI]; omega), fun h => by subst h; rw [pI]; decide⟩
theorem lt_small {x : Nat} (nx : ¬ isNan x) (hs : sg x = false) : (Go.FloatKind.f64.format.order x 4503599627370496 == some Ordering.lt) = decide (rg x < 4503599627370496) := by
  refine beq_dec ?_
  show D.order x 4503599627370496 = some .lt ↔ _
  have p2 : pl 4503599627370496 = 4503599627370496 := by decide
  rw [(order_pl nx (by decide) (fun h => absurd h.2 (by decide))).2.1, p2, pl_false hs]
  omega
theorem mul_52 : ∀ k : Fin 52, D.mul (2 ^ k.val) 4841369599423283200 = some ((k.val + 1) * 2 ^ 52) := by decide +kernel
theorem ordI_cases (x y : Nat) : (ordI x y = -1 ∧ plT x < plT y) ∨ (ordI x y = 0 ∧ plT x = plT y) ∨ (ordI x y = 1 ∧ plT y < plT x) := by
  unfold ordI; split
  · exact .inl ⟨rfl, by assumption⟩
  · split
    · exact .inr (.inr ⟨rfl, by assumption⟩)
    · exact .inr (.inl ⟨rfl, by omega⟩)
theorem ordI_lt {x y : Nat} (h : plT x < plT y) : ordI x y = -1 := by unfold ordI; rw [if_pos h]
theorem ordI_gt {x y : Nat} (h : plT y < plT x) : ordI x y = 1 := by unfold ordI; rw [if_neg (by omega), if_pos h]
theorem ordI_eq {x y : Nat} (h : plT x = plT y) : ordI x y = 0 := by unfold ordI; rw [if_neg (by omega), if_neg (by omega)]
/-- where '<' tells, the row tells the same -/
theorem order_row (x y : Nat) : (D.order x y = some .lt → plT x < plT y) ∧ (D.order x y = some .gt → plT y < plT x) ∧ (D.order x y = some .eq → plT x = plT y ∨ rg x = 0) := by
  by_cases h : isNan x ∨ isNan y
  · rw [order_none h]; exact ⟨fun e => (by cases e), fun e => (by cases e), fun e => (by cases e)⟩
  · have nx : ¬ isNan x := fun e => h (.inl e)
    have ny : ¬ isNan y := fun e => h (.inr e)
    rw [order_num nx ny, plT_num nx, plT_num ny]
    simp only [Option.some.injEq, Int.compare_eq_lt, Int.compare_eq_gt, Int.compare_eq_eq]
    exact ⟨iv_lt, iv_lt, fun e => (iv_eq e).imp id (·.1)⟩
theorem and_exp : ∀ k : Fin 2048, (k.val * 2 ^ 52) &&& 9227875636482146303 = 0 := by decide +kernel
end Fl
