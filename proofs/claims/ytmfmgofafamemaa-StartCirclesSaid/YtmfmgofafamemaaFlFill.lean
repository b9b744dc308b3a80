/- A row filled one by one, and the points as lists of words. -/
import Derived.Test.YtmfmgofafamemaaFlPts
import Derived.Test.YtmfmgofafamemaaFlList
namespace Fl
open Go
/-- the first j filled, the others as they were made -/
def fillL (n j : Nat) (z : Value) (f : Nat → Value) : List Value := (List.range n).map fun i => if i < j then f i else z
theorem fill_len (n j : Nat) (z : Value) (f : Nat → Value) : (fillL n j z f).length = n := by simp [fillL]
theorem fill_zero (n : Nat) (z : Value) (f : Nat → Value) : fillL n 0 z f = List.replicate n z := by
  apply List.ext_getElem
  · simp [fillL]
  · intro i h1 h2; simp [fillL]
theorem fill_set (n j : Nat) (z : Value) (f : Nat → Value) : (fillL n j z f).set j (f j) = fillL n (j + 1) z f := by
  apply List.ext_getElem
  · simp [fillL]
  · intro i h1 h2
    have hi : i < n := by simpa [fillL] using h2
    rw [List.getElem_set]
    simp only [fillL, List.getElem_map, List.getElem_range]
    by_cases c : j = i
    · subst c; simp
    · rw [if_neg c]
      by_cases d : i < j
      · rw [if_pos d, if_pos (by omega)]
      · rw [if_neg d, if_neg (by omega)]
theorem fill_full (n : Nat) (z : Value) (f : Nat → Value) : fillL n n z f = (List.range n).map f := by
  apply List.ext_getElem
  · simp [fillL]
  · intro i h1 h2
    have hi : i < n := by simpa [fillL] using h1
    simp only [fillL, List.getElem_map, List.getElem_range, if_pos hi]
def rotX (q x y : Nat) : Nat := bif Nat.beq q 0 then x else bif Nat.beq q 1 then negF y else bif Nat.beq q 2 then negF x else y
def rotY (q x y : Nat) : Nat := bif Nat.beq q 0 then y else bif Nat.beq q 1 then x else bif Nat.beq q 2 then negF y else negF x
def wX (c j : Nat) : Nat := rotX (4 * j / c) (xW c (4 * j % c)) (yW c (4 * j % c))
def wY (c j : Nat) : Nat := rotY (4 * j / c) (xW c (4 * j % c)) (yW c (4 * j % c))
/-- the point's words -/
def rX (q x y : Nat) : Nat := if q = 0 then x else if q = 1 then neg y else if q = 2 then neg x else y
def rY (q x y : Nat) : Nat := if q = 0 then y else if q = 1 then x else if q = 2 then neg y else neg x
theorem rX_eq (q x y : Nat) : rX q x y = rotX q x y := by
  unfold rX rotX
  rw [negF_eq, negF_eq]
  by_cases h0 : q = 0
  · rw [if_pos h0, beqT h0]; rfl
  · rw [if_neg h0, beqF h0]
    by_cases h1 : q = 1
    · rw [if_pos h1, beqT h1]; rfl
    · rw [if_neg h1, beqF h1]
      by_cases h2 : q = 2
      · rw [if_pos h2, beqT h2]; rfl
      · rw [if_neg h2, beqF h2]; rfl
theorem rY_eq (q x y : Nat) : rY q x y = rotY q x y := by
  unfold rY rotY
  rw [negF_eq, negF_eq]
  by_cases h0 : q = 0
  · rw [if_pos h0, beqT h0]; rfl
  · rw [if_neg h0, beqF h0]
    by_cases h1 : q = 1
    · rw [if_pos h1, beqT h1]; rfl
    · rw [if_neg h1, beqF h1]
      by_cases h2 : q = 2
      · rw [if_pos h2, beqT h2]; rfl
      · rw [if_neg h2, beqF h2]; rfl
theorem wX_eq (c j : Nat) : wX c j = rX (4 * j / c) (xW c (4 * j % c)) (yW c (4 * j % c)) := by rw [rX_eq]; rfl
theorem wY_eq (c j : Nat) : wY c j = rY (4 * j / c) (xW c (4 * j % c)) (yW c (4 * j % c)) := by rw [rY_eq]; rfl
/-- of plain size: words whose exponents are from 1014 to 1022 -/
structure Mid (x : Nat) : Prop where
  lt : x < 2 ^ 64
  lo : 1014 * 2 ^ 52 ≤ rg x
  hi : rg x < 1023 * 2 ^ 52
theorem Mid.neg {x : Nat} (h : Mid x) : Mid (neg x) := ⟨neg_lt x h.lt, by rw [rg_neg x h.lt]; exact h.lo, by rw [rg_neg x h.lt]; exact h.hi⟩
theorem Mid.of {x : Nat} (h : 1014 * 2 ^ 52 ≤ x ∧ x < 1023 * 2 ^ 52) : Mid x := by
  have e : rg x = x := Nat.mod_eq_of_lt (by omega)
  exact ⟨by omega, by rw [e]; exact h.1, by rw [e]; exact h.2⟩
theorem mid_rX {q x y : Nat} (hx : Mid x) (hy : Mid y) : Mid (rX q x y) := by unfold rX; split; exact hx; split; exact hy.neg; split; exact hx.neg; exact hy
theorem mid_rY {q x y : Nat} (hx : Mid x) (hy : Mid y) : Mid (rY q x y) := by unfold rY; split; exact hy; split; exact hx; split; exact hy.neg; exact hx.neg
theorem mid_w {c j : Nat} (h1 : 1 ≤ c) (h2 : c ≤ 64) : Mid (wX c j) ∧ Mid (wY c j) := by
  have F := pt_facts h2 (Nat.mod_lt (4 * j) h1)
  rw [wX_eq, wY_eq]
  exact ⟨mid_rX (.of F.x) (.of F.y), mid_rY (.of F.x) (.of F.y)⟩
/-- what Ldexp asks of a word of plain size -/
theorem Mid.ld {x : Nat} (h : Mid x) {k : Int} (h1 : -1000 ≤ k) (h2 : k ≤ 1000) : 2 ^ 52 ≤ rg x ∧ rg x < INF ∧ 1 ≤ (rg x / 2 ^ 52 : Nat) + k ∧ (rg x / 2 ^ 52 : Nat) + k ≤ 2046 := by
  have a := h.lo
  have b := h.hi
  unfold INF
  generalize rg x = r at *
  omega
/-- a quarter further on -/
theorem quarter {c i : Nat} (h1 : 1 ≤ c) (h2 : c ≤ 64) (h4 : c % 4 = 0) (hi : i + c / 4 < c) : wX c (i + c / 4) = neg (wY c i) ∧ wY c (i + c / 4) = wX c i := by
  have F := pt_facts h2 (Nat.mod_lt (4 * i) h1)
  have hx := Mid.of F.x
  have hy := Mid.of F.y
  rw [wX_eq, wY_eq, wX_eq, wY_eq]
  have e : 4 * (i + c / 4) = 4 * i + c := by omega
  have e1 : (4 * i + c) / c = 4 * i / c + 1 := Nat.add_div_right _ h1
  have e2 : (4 * i + c) % c = 4 * i % c := Nat.add_mod_right _ _
  rw [e, e1, e2]
  have hq : 4 * i / c + 1 < 4 := by rw [← e1]; exact (Nat.div_lt_iff_lt_mul h1).2 (by omega)
  generalize xW c (4 * i % c) = x at *
  generalize yW c (4 * i % c) = y at *
  generalize 4 * i / c = q at *
  have hc : q = 0 ∨ q = 1 ∨ q = 2 := by omega
  rcases hc with rfl | rfl | rfl
  · simp [rX, rY]
  · simp [rX, rY]
  · simp [rX, rY, neg_neg y hy.lt]
/-- the points of a count and a scale -/
def ptK (c : Nat) (k : Int) (j : Nat) : Cpx := (ldx (wX c j) k, ldx (wY c j) k)
def pts (c : Nat) (k : Int) : List Cpx := (List.range c).map (ptK c k)
theorem pts_len (c : Nat) (k : Int) : (pts c k).length = c := by simp [pts]
theorem nth_pts (c : Nat) (k : Int) (j : Nat) (h : j < c) : nth (pts c k) j = ptK c k j := by
  simp [nth, pts, List.getD_eq_getElem?_getD, h]
theorem pts_cv (c : Nat) (k : Int) : (pts c k).map cv = (List.range c).map fun j => cv (ptK c k j) := by
  simp [pts]
end Fl
