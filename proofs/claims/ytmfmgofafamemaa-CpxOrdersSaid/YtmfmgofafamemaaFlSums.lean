/- Sums of lists of whole numbers: exact in any order. Sums of the same in the same row: the same. -/
import Derived.Test.YtmfmgofafamemaaFlInt
import Derived.Test.YtmfmgofafamemaaFlList
namespace Fl
open Go

/-- a list of numbers of whole parts of at most 2^23 in size, and the sums of its parts -/
inductive IntL : List Cpx → Int → Int → Prop
  | nil : IntL [] 0 0
  | cons (z : Cpx) (zs : List Cpx) (m n M N : Int) : IsI z.1 m → IsI z.2 n → m.natAbs ≤ 2 ^ 23 → n.natAbs ≤ 2 ^ 23 → IntL zs M N → IntL (z :: zs) (m + M) (n + N)

theorem IntL.bound {zs : List Cpx} {M N : Int} (h : IntL zs M N) : M.natAbs ≤ zs.length * 2 ^ 23 ∧ N.natAbs ≤ zs.length * 2 ^ 23 := by
  induction h with
  | nil => exact ⟨by simp, by simp⟩
  | cons z zs m n M N _ _ h1 h2 _ ih =>
    rw [List.length_cons]
    omega
theorem IntL.append {a b : List Cpx} {M N M' N' : Int} (h : IntL a M N) (g : IntL b M' N') : IntL (a ++ b) (M + M') (N + N') := by
  induction h with
  | nil => simpa using g
  | cons z zs m n M N h1 h2 h3 h4 _ ih =>
    rw [List.cons_append, Int.add_assoc, Int.add_assoc]
    exact .cons _ _ _ _ _ _ h1 h2 h3 h4 ih
theorem IntL.one {z : Cpx} {m n : Int} (h1 : IsI z.1 m) (h2 : IsI z.2 n) (h3 : m.natAbs ≤ 2 ^ 23) (h4 : n.natAbs ≤ 2 ^ 23) : IntL [z] m n := by
  have := IntL.cons z [] m n 0 0 h1 h2 h3 h4 .nil
  simpa using this
theorem IntL.split {a b : List Cpx} {M N : Int} (h : IntL (a ++ b) M N) : ∃ M1 N1 M2 N2, IntL a M1 N1 ∧ IntL b M2 N2 ∧ M = M1 + M2 ∧ N = N1 + N2 := by
  induction a generalizing M N with
  | nil => exact ⟨0, 0, M, N, .nil, h, by omega, by omega⟩
  | cons z zs ih =>
    cases h with
    | cons _ _ m n M N h1 h2 h3 h4 h5 =>
      obtain ⟨M1, N1, M2, N2, g1, g2, rfl, rfl⟩ := ih h5
      exact ⟨_, _, M2, N2, .cons _ _ _ _ _ _ h1 h2 h3 h4 g1, g2, by omega, by omega⟩
theorem IntL.reverse {zs : List Cpx} {M N : Int} (h : IntL zs M N) : IntL zs.reverse M N := by
  induction h with
  | nil => exact .nil
  | cons z zs m n M N h1 h2 h3 h4 _ ih =>
    rw [List.reverse_cons, Int.add_comm m M, Int.add_comm n N]
    exact ih.append (.one h1 h2 h3 h4)
/-- turned round by k -/
def rotL (zs : List Cpx) (k : Nat) : List Cpx := zs.drop k ++ zs.take k
theorem IntL.rot {zs : List Cpx} {M N : Int} (h : IntL zs M N) (k : Nat) : IntL (rotL zs k) M N := by
  rw [← List.take_append_drop k zs] at h
  obtain ⟨M1, N1, M2, N2, g1, g2, rfl, rfl⟩ := h.split
  rw [Int.add_comm M1, Int.add_comm N1]
  exact g2.append g1
theorem rotL_length (zs : List Cpx) (k : Nat) : (rotL zs k).length = zs.length := by
  unfold rotL; rw [List.length_append, List.length_drop, List.length_take]; omega
theorem nth_rot (zs : List Cpx) (k i : Nat) (hk : k < zs.length) (hi : i < zs.length) : nth (rotL zs k) i = nth zs ((i + k) % zs.length) := by
  unfold rotL nth
  rw [List.getD_eq_getElem?_getD, List.getD_eq_getElem?_getD]
  by_cases c : i < (zs.drop k).length
  · rw [List.getElem?_append_left c, List.getElem?_drop]
    rw [List.length_drop] at c
    rw [Nat.mod_eq_of_lt (by omega), Nat.add_comm]
  · rw [List.getElem?_append_right (by omega)]
    rw [List.length_drop] at c ⊢
    have e : (i + k) % zs.length = i - (zs.length - k) := by
      rw [Nat.mod_eq_sub_mod (by omega), Nat.mod_eq_of_lt (by omega)]; omega
    rw [e, List.getElem?_take, if_pos (by omega)]

theorem FoldR.exact {a b : Nat} {zs : List Cpx} {x y : Nat} (h : FoldR a b zs x y) : ∀ {A B M N : Int}, IsI a A → IsI b B → IntL zs M N → A.natAbs + zs.length * 2 ^ 23 ≤ 2 ^ 53 → B.natAbs + zs.length * 2 ^ 23 ≤ 2 ^ 53 → IsI x (A + M) ∧ IsI y (B + N) := by
  induction h with
  | nil a b =>
    intro A B M N ha hb hl _ _
    cases hl
    exact ⟨by simpa using ha, by simpa using hb⟩
  | cons a b z zs c d x y hA _ ih =>
    intro A B M N ha hb hl h1 h2
    cases hl with
    | cons _ _ m n M N g1 g2 g3 g4 g5 =>
      rw [List.length_cons] at h1 h2
      have c1 := IsI.add ha g1 hA.1 (by omega)
      have c2 := IsI.add hb g2 hA.2 (by omega)
      have := ih c1 c2 g5 (by omega) (by omega)
      rw [← Int.add_assoc, ← Int.add_assoc]
      exact this
theorem FrontR.exact {zs : List Cpx} {x y : Nat} {M N : Int} (h : FrontR zs x y) (hl : IntL zs M N) (hn : zs.length ≤ 2 ^ 20) : IsI x M ∧ IsI y N := by
  cases zs with
  | nil =>
    cases hl
    obtain ⟨rfl, rfl⟩ := h
    exact ⟨.zero, .zero⟩
  | cons z r =>
    cases hl with
    | cons _ _ m n M N g1 g2 g3 g4 g5 =>
      rw [List.length_cons] at hn
      exact FoldR.exact h g1 g2 g5 (by omega) (by omega)
theorem HalvesR.exact {zs : List Cpx} {x y : Nat} (h : HalvesR zs x y) : ∀ {M N : Int}, IntL zs M N → zs.length ≤ 2 ^ 20 → IsI x M ∧ IsI y N := by
  induction h with
  | nil => intro M N hl _; cases hl; exact ⟨.zero, .zero⟩
  | one z =>
    intro M N hl _
    cases hl with
    | cons _ _ m n M N g1 g2 g3 g4 g5 => cases g5; exact ⟨by simpa using g1, by simpa using g2⟩
  | more zs a b c d x y h2 _ _ hA ih1 ih2 =>
    intro M N hl hn
    rw [← List.take_append_drop (zs.length / 2) zs] at hl
    obtain ⟨M1, N1, M2, N2, g1, g2, rfl, rfl⟩ := hl.split
    have l1 : (zs.take (zs.length / 2)).length ≤ 2 ^ 20 := by rw [List.length_take]; omega
    have l2 : (zs.drop (zs.length / 2)).length ≤ 2 ^ 20 := by rw [List.length_drop]; omega
    have b1 := g1.bound
    have b2 := g2.bound
    obtain ⟨p1, p2⟩ := ih1 g1 l1
    obtain ⟨q1, q2⟩ := ih2 g2 l2
    exact ⟨IsI.add p1 q1 hA.1 (by omega), IsI.add p2 q2 hA.2 (by omega)⟩
theorem SumR.exact {zs : List Cpx} {o : Int} {x y : Nat} {M N : Int} (h : SumR zs o x y) (hl : IntL zs M N) (hn : zs.length ≤ 2 ^ 20) : IsI x M ∧ IsI y N := by
  rcases h with ⟨_, h⟩ | ⟨_, h⟩ | ⟨_, h⟩
  · exact h.exact hl hn
  · exact h.exact hl.reverse (by rw [List.length_reverse]; exact hn)
  · exact h.exact hl hn

/-! ### the same in the same row -/
theorem FoldR.same {a b : Nat} {zs : List Cpx} {x y : Nat} (h : FoldR a b zs x y) : ∀ {a' b' x' y' : Nat}, FoldR a' b' zs x' y' → Fl.Same a a' → Fl.Same b b' → Fl.Same x x' ∧ Fl.Same y y' := by
  induction h with
  | nil a b => intro a' b' x' y' g h1 h2; cases g; exact ⟨h1, h2⟩
  | cons a b z zs c d x y hA _ ih =>
    intro a' b' x' y' g h1 h2
    cases g with
    | cons _ _ _ _ c' d' _ _ gA g =>
      exact ih g (hA.1.cong gA.1 h1 (Fl.Same.refl _)) (hA.2.cong gA.2 h2 (Fl.Same.refl _))
theorem FrontR.same {zs : List Cpx} {x y x' y' : Nat} (h : FrontR zs x y) (g : FrontR zs x' y') : Fl.Same x x' ∧ Fl.Same y y' := by
  cases zs with
  | nil => obtain ⟨rfl, rfl⟩ := h; obtain ⟨rfl, rfl⟩ := g; exact ⟨Fl.Same.refl _, Fl.Same.refl _⟩
  | cons z r => exact FoldR.same h g (Fl.Same.refl _) (Fl.Same.refl _)
theorem HalvesR.same {zs : List Cpx} {x y : Nat} (h : HalvesR zs x y) : ∀ {x' y' : Nat}, HalvesR zs x' y' → Fl.Same x x' ∧ Fl.Same y y' := by
  induction h with
  | nil => intro x' y' g; cases g with
    | nil => exact ⟨Fl.Same.refl _, Fl.Same.refl _⟩
    | more _ _ _ _ _ _ _ h2 => simp at h2
  | one z => intro x' y' g; cases g with
    | one => exact ⟨Fl.Same.refl _, Fl.Same.refl _⟩
    | more _ _ _ _ _ _ _ h2 => simp at h2
  | more zs a b c d x y h2 _ _ hA ih1 ih2 =>
    intro x' y' g
    cases g with
    | nil => simp at h2
    | one => simp at h2
    | more _ a' b' c' d' _ _ _ g1 g2 gA =>
      obtain ⟨p1, p2⟩ := ih1 g1
      obtain ⟨q1, q2⟩ := ih2 g2
      exact ⟨hA.1.cong gA.1 p1 q1, hA.2.cong gA.2 p2 q2⟩
theorem SumR.same {zs : List Cpx} {o : Int} {x y x' y' : Nat} (h : SumR zs o x y) (g : SumR zs o x' y') : sameCB x y x' y' = true := by
  rcases h with ⟨h0, h⟩ | ⟨h0, h⟩ | ⟨h0, h⟩ <;> rcases g with ⟨g0, g⟩ | ⟨g0, g⟩ | ⟨g0, g⟩ <;> first | omega | (exact sameCB_true (h.same g).1 (h.same g).2)
/-- of two numbers all three orders are Add -/
theorem SumR.two {z w : Cpx} {o : Int} {x y x' y' : Nat} (h : SumR [z, w] o x y) (g : AddR z.1 z.2 w.1 w.2 x' y') : sameCB x y x' y' = true := by
  rcases h with ⟨h0, h⟩ | ⟨h0, h⟩ | ⟨h0, h⟩
  · cases h with
    | cons _ _ _ _ c d _ _ hA hF => cases hF; exact sameCB_true (Res.same hA.1 g.1) (Res.same hA.2 g.2)
  · cases h with
    | cons _ _ _ _ c d _ _ hA hF => cases hF; exact AddR.comm hA g
  · cases h with
    | more _ a b c d _ _ _ h1 h2 hA =>
      have e : [z, w].length / 2 = 1 := by simp
      rw [e] at h1 h2
      have h1 : HalvesR [z] a b := h1
      have h2 : HalvesR [w] c d := h2
      cases h1 with
      | one => cases h2 with
        | one => exact sameCB_true (Res.same hA.1 g.1) (Res.same hA.2 g.2)
        | more _ _ _ _ _ _ _ h2 => simp at h2
      | more _ _ _ _ _ _ _ h2 => simp at h2
/-- from the front, and the list turned round from the back -/
theorem SumR.turned {zs : List Cpx} {x y x' y' : Nat} (h : SumR zs 1 x y) (g : SumR zs.reverse 2 x' y') : sameCB x y x' y' = true := by
  have h1 : FrontR zs x y := by
    rcases h with ⟨_, h⟩ | ⟨h0, _⟩ | ⟨h0, _⟩
    · exact h
    · exact absurd h0 (by decide)
    · exact absurd h0 (by decide)
  have g1 : FrontR zs x' y' := by
    rcases g with ⟨h0, _⟩ | ⟨_, g⟩ | ⟨h0, _⟩
    · exact absurd h0 (by decide)
    · rwa [List.reverse_reverse] at g
    · exact absurd h0 (by decide)
  exact sameCB_true (h1.same g1).1 (h1.same g1).2
theorem take_two (zs : List Cpx) (h : 2 ≤ zs.length) : zs.take 2 = [nth zs 0, nth zs 1] := by
  match zs, h with
  | a :: b :: r, _ => rfl
end Fl
