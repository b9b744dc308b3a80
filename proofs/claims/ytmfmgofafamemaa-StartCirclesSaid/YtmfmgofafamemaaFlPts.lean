/- The points on the circle of radius 1, as words: what each operation gives, that nothing is small, and that they lie as the document says. No conditions but the count's. -/
import Derived.Test.YtmfmgofafamemaaFlFast
namespace Fl
open Go Ieee
def ONE : Nat := 4607182418800017408
def TWO : Nat := 4611686018427387904
def flI (n : Int) : Nat := Go.floatOfInt .f64 n
/-- a small whole number's word, quick to reckon -/
def smI (n : Nat) : Nat := force (lgF n) fun k => (1023 + k) * 2 ^ 52 + (n * 2 ^ (52 - k) - 2 ^ 52)
def allN (n : Nat) (f : Nat → Bool) : Bool := Nat.rec true (fun k ih => force k f && ih) n
theorem allN_iff (n : Nat) (f : Nat → Bool) : allN n f = true ↔ ∀ k, k < n → f k = true := by
  induction n with
  | zero => exact ⟨fun _ k hk => absurd hk (by omega), fun _ => rfl⟩
  | succ n ih =>
    show (force n f && allN n f) = true ↔ _
    rw [force_eq, Bool.and_eq_true, ih]
    constructor
    · rintro ⟨h, g⟩ k hk
      by_cases c : k < n
      · exact g k c
      · obtain rfl : k = n := by omega
        exact h
    · intro h
      exact ⟨h n (by omega), fun k hk => h k (by omega)⟩
def smB (n : Nat) : Bool := Nat.beq n 0 || (Nat.beq (flI n) (smI n) && finF (smI n) && Nat.blt 0 (mvF (smI n)))
theorem smI_a : allN 80 smB = true := by decide +kernel
theorem smI_b : allN 80 (fun n => smB (80 + n)) = true := by decide +kernel
theorem smI_c : allN 80 (fun n => smB (160 + n)) = true := by decide +kernel
theorem smI_d : allN 85 (fun n => smB (240 + n)) = true := by decide +kernel
theorem smI_eq {n : Nat} (h0 : 0 < n) (h : n < 325) : flI n = smI n ∧ fin (smI n) ∧ mvF (smI n) ≠ 0 := by
  have : smB n = true := by
    by_cases c1 : n < 80
    · exact (allN_iff _ _).1 smI_a n c1
    · by_cases c2 : n < 160
      · have := (allN_iff _ _).1 smI_b (n - 80) (by omega)
        rwa [show 80 + (n - 80) = n by omega] at this
      · by_cases c3 : n < 240
        · have := (allN_iff _ _).1 smI_c (n - 160) (by omega)
          rwa [show 160 + (n - 160) = n by omega] at this
        · have := (allN_iff _ _).1 smI_d (n - 240) (by omega)
          rwa [show 240 + (n - 240) = n by omega] at this
  unfold smB at this
  rw [Bool.or_eq_true, Bool.and_eq_true, Bool.and_eq_true, Nat.beq_eq, Nat.beq_eq, Nat.blt_eq] at this
  rcases this with e | ⟨⟨a, b⟩, c⟩
  · omega
  · exact ⟨a, finF_iff.1 b, by omega⟩
def ptC {α : Type} (c m : Nat) (K : Nat → Nat → Nat → Nat → Nat → Nat → Nat → α) : α :=
  force (divF (smI (5 * m + 2)) (smI (5 * c))) fun t =>
  force (mulF t t) fun tt =>
  force (addF ONE tt) fun u =>
  force (subF ONE tt) fun d =>
  force (divF d u) fun x =>
  force (mulF TWO t) fun t2 =>
  force (divF t2 u) fun y => K t tt u d x t2 y
def tW (c m : Nat) : Nat := divF (smI (5 * m + 2)) (smI (5 * c))
def ttW (c m : Nat) : Nat := mulF (tW c m) (tW c m)
def uW (c m : Nat) : Nat := addF ONE (ttW c m)
def dW (c m : Nat) : Nat := subF ONE (ttW c m)
def xW (c m : Nat) : Nat := divF (dW c m) (uW c m)
def t2W (c m : Nat) : Nat := mulF TWO (tW c m)
def yW (c m : Nat) : Nat := divF (t2W c m) (uW c m)
theorem ptC_eq {α : Type} (c m : Nat) (K : Nat → Nat → Nat → Nat → Nat → Nat → Nat → α) : ptC c m K = K (tW c m) (ttW c m) (uW c m) (dW c m) (xW c m) (t2W c m) (yW c m) := by
  unfold ptC; simp only [force_eq]; rfl
def inB (x : Nat) : Bool := Nat.ble (1014 * 2 ^ 52) x && Nat.blt x (1023 * 2 ^ 52)
def okB (t tt u d x t2 y : Nat) : Bool := finF t && finF tt && finF u && finF d && finF t2 && Nat.blt 0 (mvF u) && inB x && inB y && Nat.blt tt (2 ^ 64)
-- BEGIN
theorem pt_0 : allN 0 (fun m => ptC 0 m okB) = true := by decide +kernel
theorem pt_1 : allN 1 (fun m => ptC 1 m okB) = true := by decide +kernel
theorem pt_2 : allN 2 (fun m => ptC 2 m okB) = true := by decide +kernel
theorem pt_3 : allN 3 (fun m => ptC 3 m okB) = true := by decide +kernel
theorem pt_4 : allN 4 (fun m => ptC 4 m okB) = true := by decide +kernel
theorem pt_5 : allN 5 (fun m => ptC 5 m okB) = true := by decide +kernel
theorem pt_6 : allN 6 (fun m => ptC 6 m okB) = true := by decide +kernel
theorem pt_7 : allN 7 (fun m => ptC 7 m okB) = true := by decide +kernel
theorem pt_8 : allN 8 (fun m => ptC 8 m okB) = true := by decide +kernel
theorem pt_9 : allN 9 (fun m => ptC 9 m okB) = true := by decide +kernel
theorem pt_10 : allN 10 (fun m => ptC 10 m okB) = true := by decide +kernel
theorem pt_11 : allN 11 (fun m => ptC 11 m okB) = true := by decide +kernel
theorem pt_12 : allN 12 (fun m => ptC 12 m okB) = true := by decide +kernel
theorem pt_13 : allN 13 (fun m => ptC 13 m okB) = true := by decide +kernel
theorem pt_14 : allN 14 (fun m => ptC 14 m okB) = true := by decide +kernel
theorem pt_15 : allN 15 (fun m => ptC 15 m okB) = true := by decide +kernel
theorem pt_16 : allN 16 (fun m => ptC 16 m okB) = true := by decide +kernel
theorem pt_17 : allN 17 (fun m => ptC 17 m okB) = true := by decide +kernel
theorem pt_18 : allN 18 (fun m => ptC 18 m okB) = true := by decide +kernel
theorem pt_19 : allN 19 (fun m => ptC 19 m okB) = true := by decide +kernel
theorem pt_20 : allN 20 (fun m => ptC 20 m okB) = true := by decide +kernel
theorem pt_21 : allN 21 (fun m => ptC 21 m okB) = true := by decide +kernel
theorem pt_22 : allN 22 (fun m => ptC 22 m okB) = true := by decide +kernel
theorem pt_23 : allN 23 (fun m => ptC 23 m okB) = true := by decide +kernel
theorem pt_24 : allN 24 (fun m => ptC 24 m okB) = true := by decide +kernel
theorem pt_25 : allN 25 (fun m => ptC 25 m okB) = true := by decide +kernel
theorem pt_26 : allN 26 (fun m => ptC 26 m okB) = true := by decide +kernel
theorem pt_27 : allN 27 (fun m => ptC 27 m okB) = true := by decide +kernel
theorem pt_28 : allN 28 (fun m => ptC 28 m okB) = true := by decide +kernel
theorem pt_29 : allN 29 (fun m => ptC 29 m okB) = true := by decide +kernel
theorem pt_30 : allN 30 (fun m => ptC 30 m okB) = true := by decide +kernel
theorem pt_31 : allN 31 (fun m => ptC 31 m okB) = true := by decide +kernel
theorem pt_32 : allN 32 (fun m => ptC 32 m okB) = true := by decide +kernel
theorem pt_33 : allN 33 (fun m => ptC 33 m okB) = true := by decide +kernel
theorem pt_34 : allN 34 (fun m => ptC 34 m okB) = true := by decide +kernel
theorem pt_35 : allN 35 (fun m => ptC 35 m okB) = true := by decide +kernel
theorem pt_36 : allN 36 (fun m => ptC 36 m okB) = true := by decide +kernel
theorem pt_37 : allN 37 (fun m => ptC 37 m okB) = true := by decide +kernel
theorem pt_38 : allN 38 (fun m => ptC 38 m okB) = true := by decide +kernel
theorem pt_39 : allN 39 (fun m => ptC 39 m okB) = true := by decide +kernel
theorem pt_40 : allN 40 (fun m => ptC 40 m okB) = true := by decide +kernel
theorem pt_41 : allN 41 (fun m => ptC 41 m okB) = true := by decide +kernel
theorem pt_42 : allN 42 (fun m => ptC 42 m okB) = true := by decide +kernel
theorem pt_43 : allN 43 (fun m => ptC 43 m okB) = true := by decide +kernel
theorem pt_44 : allN 44 (fun m => ptC 44 m okB) = true := by decide +kernel
theorem pt_45 : allN 45 (fun m => ptC 45 m okB) = true := by decide +kernel
theorem pt_46 : allN 46 (fun m => ptC 46 m okB) = true := by decide +kernel
theorem pt_47 : allN 47 (fun m => ptC 47 m okB) = true := by decide +kernel
theorem pt_48 : allN 48 (fun m => ptC 48 m okB) = true := by decide +kernel
theorem pt_49 : allN 49 (fun m => ptC 49 m okB) = true := by decide +kernel
theorem pt_50 : allN 50 (fun m => ptC 50 m okB) = true := by decide +kernel
theorem pt_51 : allN 51 (fun m => ptC 51 m okB) = true := by decide +kernel
theorem pt_52 : allN 52 (fun m => ptC 52 m okB) = true := by decide +kernel
theorem pt_53 : allN 53 (fun m => ptC 53 m okB) = true := by decide +kernel
theorem pt_54 : allN 54 (fun m => ptC 54 m okB) = true := by decide +kernel
theorem pt_55 : allN 55 (fun m => ptC 55 m okB) = true := by decide +kernel
theorem pt_56 : allN 56 (fun m => ptC 56 m okB) = true := by decide +kernel
theorem pt_57 : allN 57 (fun m => ptC 57 m okB) = true := by decide +kernel
theorem pt_58 : allN 58 (fun m => ptC 58 m okB) = true := by decide +kernel
theorem pt_59 : allN 59 (fun m => ptC 59 m okB) = true := by decide +kernel
theorem pt_60 : allN 60 (fun m => ptC 60 m okB) = true := by decide +kernel
theorem pt_61 : allN 61 (fun m => ptC 61 m okB) = true := by decide +kernel
theorem pt_62 : allN 62 (fun m => ptC 62 m okB) = true := by decide +kernel
theorem pt_63 : allN 63 (fun m => ptC 63 m okB) = true := by decide +kernel
theorem pt_64 : allN 64 (fun m => ptC 64 m okB) = true := by decide +kernel
theorem pt_all : ∀ c : Nat, c ≤ 64 → allN c (fun m => ptC c m okB) = true
  | 0, _ => pt_0
  | 1, _ => pt_1
  | 2, _ => pt_2
  | 3, _ => pt_3
  | 4, _ => pt_4
  | 5, _ => pt_5
  | 6, _ => pt_6
  | 7, _ => pt_7
  | 8, _ => pt_8
  | 9, _ => pt_9
  | 10, _ => pt_10
  | 11, _ => pt_11
  | 12, _ => pt_12
  | 13, _ => pt_13
  | 14, _ => pt_14
  | 15, _ => pt_15
  | 16, _ => pt_16
  | 17, _ => pt_17
  | 18, _ => pt_18
  | 19, _ => pt_19
  | 20, _ => pt_20
  | 21, _ => pt_21
  | 22, _ => pt_22
  | 23, _ => pt_23
  | 24, _ => pt_24
  | 25, _ => pt_25
  | 26, _ => pt_26
  | 27, _ => pt_27
  | 28, _ => pt_28
  | 29, _ => pt_29
  | 30, _ => pt_30
  | 31, _ => pt_31
  | 32, _ => pt_32
  | 33, _ => pt_33
  | 34, _ => pt_34
  | 35, _ => pt_35
  | 36, _ => pt_36
  | 37, _ => pt_37
  | 38, _ => pt_38
  | 39, _ => pt_39
  | 40, _ => pt_40
  | 41, _ => pt_41
  | 42, _ => pt_42
  | 43, _ => pt_43
  | 44, _ => pt_44
  | 45, _ => pt_45
  | 46, _ => pt_46
  | 47, _ => pt_47
  | 48, _ => pt_48
  | 49, _ => pt_49
  | 50, _ => pt_50
  | 51, _ => pt_51
  | 52, _ => pt_52
  | 53, _ => pt_53
  | 54, _ => pt_54
  | 55, _ => pt_55
  | 56, _ => pt_56
  | 57, _ => pt_57
  | 58, _ => pt_58
  | 59, _ => pt_59
  | 60, _ => pt_60
  | 61, _ => pt_61
  | 62, _ => pt_62
  | 63, _ => pt_63
  | 64, _ => pt_64
  | n + 65, h => absurd h (by omega)
-- END
theorem pt_ok {c m : Nat} (hc : c ≤ 64) (hm : m < c) : okB (tW c m) (ttW c m) (uW c m) (dW c m) (xW c m) (t2W c m) (yW c m) = true := by
  have := (allN_iff _ _).1 (pt_all c hc) m hm
  rwa [ptC_eq] at this
theorem inB_iff {x : Nat} : inB x = true ↔ 1014 * 2 ^ 52 ≤ x ∧ x < 1023 * 2 ^ 52 := by unfold inB; rw [Bool.and_eq_true, Nat.ble_eq, Nat.blt_eq]
/-- the facts of one point -/
structure PtOk (c m : Nat) : Prop where
  t : fin (tW c m)
  tt : fin (ttW c m)
  u : fin (uW c m)
  d : fin (dW c m)
  t2 : fin (t2W c m)
  u0 : mvF (uW c m) ≠ 0
  x : 1014 * 2 ^ 52 ≤ xW c m ∧ xW c m < 1023 * 2 ^ 52
  y : 1014 * 2 ^ 52 ≤ yW c m ∧ yW c m < 1023 * 2 ^ 52
  tl : ttW c m < 2 ^ 64
theorem pt_facts {c m : Nat} (hc : c ≤ 64) (hm : m < c) : PtOk c m := by
  have := pt_ok hc hm
  unfold okB at this
  simp only [Bool.and_eq_true, finF_iff, inB_iff, Nat.blt_eq] at this
  obtain ⟨⟨⟨⟨⟨⟨⟨⟨a, b⟩, c⟩, d⟩, e⟩, f⟩, g⟩, h⟩, i⟩ := this
  exact ⟨a, b, c, d, e, by omega, g, h, i⟩
end Fl
