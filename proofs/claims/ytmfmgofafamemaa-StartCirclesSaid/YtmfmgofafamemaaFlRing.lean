/- The points of one count: each on the circle, anticlockwise, apart from one another and from one another's conjugates: checked by the kernel for every count. No conditions but the count's. -/
import Derived.Test.YtmfmgofafamemaaFlFill
namespace Fl
open Go Ieee
/-- the value, lifted above 0 -/
def shF (x : Nat) : Nat := force (mvF x / pw2 1013) fun v => bif sgF x then 2 ^ 62 - v else 2 ^ 62 + v
structure Pt where
  x : Nat
  y : Nat
  a : Nat
  b : Nat
def pt (c j : Nat) : Pt := ⟨wX c j, wY c j, shF (wX c j), shF (wY c j)⟩
def mkL (c : Nat) (n : Nat) : List Pt → (List Pt → Bool) → Bool :=
  Nat.rec (fun acc K => K acc) (fun n ih acc K =>
    ptC c (4 * n % c) fun _ _ _ _ x _ y => force (rotX (4 * n / c) x y) fun u => force (rotY (4 * n / c) x y) fun v =>
    force (shF u) fun a => force (shF v) fun b => ih (⟨u, v, a, b⟩ :: acc) K) n
theorem mkL_succ (c n : Nat) (acc : List Pt) (K : List Pt → Bool) : mkL c (n + 1) acc K =
    ptC c (4 * n % c) fun _ _ _ _ x _ y => force (rotX (4 * n / c) x y) fun u => force (rotY (4 * n / c) x y) fun v =>
    force (shF u) fun a => force (shF v) fun b => mkL c n (⟨u, v, a, b⟩ :: acc) K := rfl
theorem mkL_eq (c : Nat) (K : List Pt → Bool) : ∀ (n : Nat) (acc : List Pt), mkL c n acc K = K ((List.range n).map (pt c) ++ acc) := by
  intro n
  induction n with
  | zero => intro acc; rfl
  | succ n ih =>
    intro acc
    rw [mkL_succ]
    rw [ptC_eq]
    simp only [force_eq]
    have h : ∀ x y, x = xW c (4 * n % c) → y = yW c (4 * n % c) → mkL c n (⟨rotX (4 * n / c) x y, rotY (4 * n / c) x y, shF (rotX (4 * n / c) x y), shF (rotY (4 * n / c) x y)⟩ :: acc) K = K ((List.range (n + 1)).map (pt c) ++ acc) := by
      intro x y hx hy
      rw [hx, hy]
      rw [List.range_succ, List.map_append, List.append_assoc]
      exact ih (pt c n :: acc)
    exact h _ _ rfl rfl
def okS (p : Pt) : Bool := force (mulF p.x p.x) fun u => force (mulF p.y p.y) fun v => force (addF u v) fun s => force (subF s ONE) fun e =>
  finF p.x && finF p.y && finF u && finF v && finF s && Nat.ble (e % 2 ^ 63) (975 * 2 ^ 52) && Nat.blt 0 (p.x % 2 ^ 63) && Nat.blt 0 (p.y % 2 ^ 63) && Nat.blt p.x (2 ^ 64) && Nat.blt p.y (2 ^ 64)
def okX (p q : Pt) : Bool := force (mulF p.x q.y) fun u => force (mulF p.y q.x) fun v => force (subF u v) fun d =>
  finF u && finF v && Nat.blt v (2 ^ 64) && Nat.blt 0 d && Nat.blt d INF
def dst (a b : Nat) : Nat := (a - b) + (b - a)
def okA (p q : Pt) : Bool := Nat.ble (2 ^ 42) (dst p.a q.a) || (Nat.ble (2 ^ 42) (dst p.b q.b) && Nat.ble (2 ^ 42) (dst (p.b + q.b) (2 ^ 63)))
def allB {α : Type} (f : α → Bool) : List α → Bool
  | [] => true
  | a :: r => f a && allB f r
theorem allB_iff {α : Type} (f : α → Bool) (l : List α) : allB f l = true ↔ ∀ a ∈ l, f a = true := by
  induction l with
  | nil => simp [allB]
  | cons a r ih =>
    show (f a && allB f r) = true ↔ _
    rw [Bool.and_eq_true, ih]; simp
/-- each with the next one, the last with 'e' -/
def hd (e : Pt) : List Pt → Pt
  | [] => e
  | q :: _ => q
def nbr (e : Pt) : List Pt → Bool
  | [] => true
  | p :: r => okX p (hd e r) && nbr e r
theorem nbr_at (e : Pt) : ∀ (l : List Pt), nbr e l = true → ∀ (i : Nat) (h : i < l.length), okX l[i] (l.getD (i + 1) e) = true := by
  intro l
  induction l with
  | nil => intro _ i h; simp at h
  | cons p r ih =>
    intro h i hi
    have h' : (okX p (hd e r) && nbr e r) = true := h
    rw [Bool.and_eq_true] at h'
    cases i with
    | zero =>
      cases r with
      | nil => exact h'.1
      | cons q s => exact h'.1
    | succ i =>
      have := ih h'.2 i (by simpa using hi)
      simpa using this
def prs : List Pt → Bool
  | [] => true
  | p :: r => allB (okA p) r && prs r
theorem prs_at : ∀ (l : List Pt), prs l = true → ∀ (i j : Nat) (h : i < j) (hj : j < l.length), okA (l[i]'(Nat.lt_trans h hj)) l[j] = true := by
  intro l
  induction l with
  | nil => intro _ i j h hj; simp at hj
  | cons p r ih =>
    intro h i j hij hj
    have h' : (allB (okA p) r && prs r) = true := h
    rw [Bool.and_eq_true] at h'
    cases j with
    | zero => omega
    | succ j =>
      cases i with
      | zero =>
        have := (allB_iff _ _).1 h'.1 (r[j]'(by simpa using hj)) (List.getElem_mem _)
        simpa using this
      | succ i =>
        have := ih h'.2 i j (by omega) (by simpa using hj)
        simpa using this
def chk (l : List Pt) : Bool := allB okS l && prs l && (Nat.ble l.length 2 || nbr (hd ⟨0, 0, 0, 0⟩ l) l)
-- BEGIN
theorem chk_0 : mkL 0 0 [] chk = true := by decide +kernel
theorem chk_1 : mkL 1 1 [] chk = true := by decide +kernel
theorem chk_2 : mkL 2 2 [] chk = true := by decide +kernel
theorem chk_3 : mkL 3 3 [] chk = true := by decide +kernel
theorem chk_4 : mkL 4 4 [] chk = true := by decide +kernel
theorem chk_5 : mkL 5 5 [] chk = true := by decide +kernel
theorem chk_6 : mkL 6 6 [] chk = true := by decide +kernel
theorem chk_7 : mkL 7 7 [] chk = true := by decide +kernel
theorem chk_8 : mkL 8 8 [] chk = true := by decide +kernel
theorem chk_9 : mkL 9 9 [] chk = true := by decide +kernel
theorem chk_10 : mkL 10 10 [] chk = true := by decide +kernel
theorem chk_11 : mkL 11 11 [] chk = true := by decide +kernel
theorem chk_12 : mkL 12 12 [] chk = true := by decide +kernel
theorem chk_13 : mkL 13 13 [] chk = true := by decide +kernel
theorem chk_14 : mkL 14 14 [] chk = true := by decide +kernel
theorem chk_15 : mkL 15 15 [] chk = true := by decide +kernel
theorem chk_16 : mkL 16 16 [] chk = true := by decide +kernel
theorem chk_17 : mkL 17 17 [] chk = true := by decide +kernel
theorem chk_18 : mkL 18 18 [] chk = true := by decide +kernel
theorem chk_19 : mkL 19 19 [] chk = true := by decide +kernel
theorem chk_20 : mkL 20 20 [] chk = true := by decide +kernel
theorem chk_21 : mkL 21 21 [] chk = true := by decide +kernel
theorem chk_22 : mkL 22 22 [] chk = true := by decide +kernel
theorem chk_23 : mkL 23 23 [] chk = true := by decide +kernel
theorem chk_24 : mkL 24 24 [] chk = true := by decide +kernel
theorem chk_25 : mkL 25 25 [] chk = true := by decide +kernel
theorem chk_26 : mkL 26 26 [] chk = true := by decide +kernel
theorem chk_27 : mkL 27 27 [] chk = true := by decide +kernel
theorem chk_28 : mkL 28 28 [] chk = true := by decide +kernel
theorem chk_29 : mkL 29 29 [] chk = true := by decide +kernel
theorem chk_30 : mkL 30 30 [] chk = true := by decide +kernel
theorem chk_31 : mkL 31 31 [] chk = true := by decide +kernel
theorem chk_32 : mkL 32 32 [] chk = true := by decide +kernel
theorem chk_33 : mkL 33 33 [] chk = true := by decide +kernel
theorem chk_34 : mkL 34 34 [] chk = true := by decide +kernel
theorem chk_35 : mkL 35 35 [] chk = true := by decide +kernel
theorem chk_36 : mkL 36 36 [] chk = true := by decide +kernel
theorem chk_37 : mkL 37 37 [] chk = true := by decide +kernel
theorem chk_38 : mkL 38 38 [] chk = true := by decide +kernel
theorem chk_39 : mkL 39 39 [] chk = true := by decide +kernel
theorem chk_40 : mkL 40 40 [] chk = true := by decide +kernel
theorem chk_41 : mkL 41 41 [] chk = true := by decide +kernel
theorem chk_42 : mkL 42 42 [] chk = true := by decide +kernel
theorem chk_43 : mkL 43 43 [] chk = true := by decide +kernel
theorem chk_44 : mkL 44 44 [] chk = true := by decide +kernel
theorem chk_45 : mkL 45 45 [] chk = true := by decide +kernel
theorem chk_46 : mkL 46 46 [] chk = true := by decide +kernel
theorem chk_47 : mkL 47 47 [] chk = true := by decide +kernel
theorem chk_48 : mkL 48 48 [] chk = true := by decide +kernel
theorem chk_49 : mkL 49 49 [] chk = true := by decide +kernel
theorem chk_50 : mkL 50 50 [] chk = true := by decide +kernel
theorem chk_51 : mkL 51 51 [] chk = true := by decide +kernel
theorem chk_52 : mkL 52 52 [] chk = true := by decide +kernel
theorem chk_53 : mkL 53 53 [] chk = true := by decide +kernel
theorem chk_54 : mkL 54 54 [] chk = true := by decide +kernel
theorem chk_55 : mkL 55 55 [] chk = true := by decide +kernel
theorem chk_56 : mkL 56 56 [] chk = true := by decide +kernel
theorem chk_57 : mkL 57 57 [] chk = true := by decide +kernel
theorem chk_58 : mkL 58 58 [] chk = true := by decide +kernel
theorem chk_59 : mkL 59 59 [] chk = true := by decide +kernel
theorem chk_60 : mkL 60 60 [] chk = true := by decide +kernel
theorem chk_61 : mkL 61 61 [] chk = true := by decide +kernel
theorem chk_62 : mkL 62 62 [] chk = true := by decide +kernel
theorem chk_63 : mkL 63 63 [] chk = true := by decide +kernel
theorem chk_64 : mkL 64 64 [] chk = true := by decide +kernel
theorem chk_all : ∀ c : Nat, c ≤ 64 → mkL c c [] chk = true
  | 0, _ => chk_0
  | 1, _ => chk_1
  | 2, _ => chk_2
  | 3, _ => chk_3
  | 4, _ => chk_4
  | 5, _ => chk_5
  | 6, _ => chk_6
  | 7, _ => chk_7
  | 8, _ => chk_8
  | 9, _ => chk_9
  | 10, _ => chk_10
  | 11, _ => chk_11
  | 12, _ => chk_12
  | 13, _ => chk_13
  | 14, _ => chk_14
  | 15, _ => chk_15
  | 16, _ => chk_16
  | 17, _ => chk_17
  | 18, _ => chk_18
  | 19, _ => chk_19
  | 20, _ => chk_20
  | 21, _ => chk_21
  | 22, _ => chk_22
  | 23, _ => chk_23
  | 24, _ => chk_24
  | 25, _ => chk_25
  | 26, _ => chk_26
  | 27, _ => chk_27
  | 28, _ => chk_28
  | 29, _ => chk_29
  | 30, _ => chk_30
  | 31, _ => chk_31
  | 32, _ => chk_32
  | 33, _ => chk_33
  | 34, _ => chk_34
  | 35, _ => chk_35
  | 36, _ => chk_36
  | 37, _ => chk_37
  | 38, _ => chk_38
  | 39, _ => chk_39
  | 40, _ => chk_40
  | 41, _ => chk_41
  | 42, _ => chk_42
  | 43, _ => chk_43
  | 44, _ => chk_44
  | 45, _ => chk_45
  | 46, _ => chk_46
  | 47, _ => chk_47
  | 48, _ => chk_48
  | 49, _ => chk_49
  | 50, _ => chk_50
  | 51, _ => chk_51
  | 52, _ => chk_52
  | 53, _ => chk_53
  | 54, _ => chk_54
  | 55, _ => chk_55
  | 56, _ => chk_56
  | 57, _ => chk_57
  | 58, _ => chk_58
  | 59, _ => chk_59
  | 60, _ => chk_60
  | 61, _ => chk_61
  | 62, _ => chk_62
  | 63, _ => chk_63
  | 64, _ => chk_64
  | n + 65, h => absurd h (by omega)
-- END
end Fl
