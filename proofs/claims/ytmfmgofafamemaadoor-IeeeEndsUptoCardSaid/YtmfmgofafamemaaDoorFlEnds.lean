/- The least and the greatest of a row of words, taken one by one: plain laws. No conditions but that words are below 2^64. -/
import Derived.Test.YtmfmgofafamemaaDoorFlUlp
namespace Fl
open Go Ieee
theorem nanq_nan : isNan NANQ := by decide
/-- x is the end of g 0 .. g (k - 1) in the sense of 'le' -/
def EndR (le : Int → Int → Prop) (g : Nat → Nat) (k x : Nat) : Prop :=
  (k = 0 ∧ x = g 0) ∨ (0 < k ∧ (∃ j, j < k ∧ isNan (g j)) ∧ isNan x) ∨ (0 < k ∧ (∀ j, j < k → ¬ isNan (g j)) ∧ (∃ j, j < k ∧ x = g j) ∧ ∀ j, j < k → le (pl x) (pl (g j)))
theorem EndR.start (le : Int → Int → Prop) (g : Nat → Nat) : EndR le g 0 (g 0) := .inl ⟨rfl, rfl⟩
theorem EndR.step {le : Int → Int → Prop} {g : Nat → Nat} {k x y : Nat} (h : EndR le g k x) (refl : ∀ a, le a a) (trans : ∀ a b c, le a b → le b c → le a c)
    (hn : isNan x ∨ isNan (g k) → isNan y) (hy : ¬ isNan x → ¬ isNan (g k) → (y = x ∧ le (pl x) (pl (g k))) ∨ (y = g k ∧ le (pl (g k)) (pl x))) : EndR le g (k + 1) y := by
  rcases h with ⟨rfl, rfl⟩ | ⟨h0, ⟨j, hj, jn⟩, xn⟩ | ⟨h0, hall, ⟨j, hj, rfl⟩, hle⟩
  · by_cases c : isNan (g 0)
    · exact .inr (.inl ⟨by omega, ⟨0, by omega, c⟩, hn (.inl c)⟩)
    · right; right
      refine ⟨by omega, fun j hj => ?_, ?_, fun j hj => ?_⟩
      · obtain rfl : j = 0 := by omega
        exact c
      · rcases hy c c with h | h <;> exact ⟨0, by omega, h.1⟩
      · obtain rfl : j = 0 := by omega
        rcases hy c c with h | h <;> rw [h.1] <;> exact refl _
  · exact .inr (.inl ⟨by omega, ⟨j, by omega, jn⟩, hn (.inl xn)⟩)
  · by_cases c : isNan (g k)
    · exact .inr (.inl ⟨by omega, ⟨k, by omega, c⟩, hn (.inr c)⟩)
    · right; right
      refine ⟨by omega, fun i hi => ?_, ?_, fun i hi => ?_⟩
      · by_cases e : i < k
        · exact hall i e
        · obtain rfl : i = k := by omega
          exact c
      · rcases hy (hall j hj) c with h | h
        · exact ⟨j, by omega, h.1⟩
        · exact ⟨k, by omega, h.1⟩
      · rcases hy (hall j hj) c with ⟨rfl, h⟩ | ⟨rfl, h⟩
        · by_cases e : i < k
          · exact hle i e
          · obtain rfl : i = k := by omega
            exact h
        · by_cases e : i < k
          · exact trans _ _ _ h (hle i e)
          · obtain rfl : i = k := by omega
            exact refl _
def leA (a b : Int) : Prop := a ≤ b
def leB (a b : Int) : Prop := b ≤ a
theorem EndR.min {g : Nat → Nat} {k x : Nat} (h : EndR leA g k x) : EndR leA g (k + 1) (fmin x (g k)) :=
  h.step (fun _ => Int.le_refl _) (fun _ _ _ h g => Int.le_trans h g) (fun c => by rw [fmin_nan c]; exact nanq_nan) fun c1 c2 => by
    unfold fmin leA
    rw [if_neg (by intro c; rcases c with c | c <;> contradiction)]
    by_cases c : pl (g k) ≤ pl x
    · rw [if_pos c]; exact .inr ⟨rfl, c⟩
    · rw [if_neg c]; exact .inl ⟨rfl, by omega⟩
theorem EndR.max {g : Nat → Nat} {k x : Nat} (h : EndR leB g k x) : EndR leB g (k + 1) (fmax (g k) x) :=
  h.step (fun _ => Int.le_refl _) (fun _ _ _ h g => Int.le_trans g h) (fun c => by rw [fmax_nan (by rcases c with c | c; exact .inr c; exact .inl c)]; exact nanq_nan) fun c1 c2 => by
    unfold fmax leB
    rw [if_neg (by intro c; rcases c with c | c <;> contradiction)]
    by_cases c : pl (g k) ≤ pl x
    · rw [if_pos c]; exact .inl ⟨rfl, c⟩
    · rw [if_neg c]; exact .inr ⟨rfl, by omega⟩
/-- what the law asks at the end -/
theorem EndR.nan {le : Int → Int → Prop} {g : Nat → Nat} {k x : Nat} (h : EndR le g k x) (h0 : 0 < k) (hn : ∃ j, j < k ∧ isNan (g j)) : isNan x := by
  rcases h with ⟨rfl, _⟩ | ⟨_, _, h⟩ | ⟨_, h, _⟩
  · omega
  · exact h
  · obtain ⟨j, hj, c⟩ := hn
    exact absurd c (h j hj)
theorem EndR.num {le : Int → Int → Prop} {g : Nat → Nat} {k x : Nat} (h : EndR le g k x) (h0 : 0 < k) (hn : ¬ ∃ j, j < k ∧ isNan (g j)) :
    ¬ isNan x ∧ (∃ j, j < k ∧ x = g j) ∧ ∀ j, j < k → le (pl x) (pl (g j)) := by
  rcases h with ⟨rfl, _⟩ | ⟨_, h, _⟩ | ⟨_, h, ⟨j, hj, e⟩, h3⟩
  · omega
  · exact absurd h hn
  · exact ⟨by rw [e]; exact h j hj, ⟨j, hj, e⟩, h3⟩
/-- the least from the front and the least from the back are one word -/
theorem ends_same {g : Nat → Nat} {n x y : Nat} (hg : ∀ j, j < n → g j < 2 ^ 64) (hx : EndR leA g n x) (hy : EndR leA (fun j => g (n - 1 - j)) n y) (h0 : 0 < n) (hn : ¬ ∃ j, j < n ∧ isNan (g j)) : x = y := by
  have hn' : ¬ ∃ j, j < n ∧ isNan ((fun j => g (n - 1 - j)) j) := fun ⟨j, hj, c⟩ => hn ⟨n - 1 - j, by omega, c⟩
  obtain ⟨_, ⟨i, hi, ei⟩, hx2⟩ := hx.num h0 hn
  obtain ⟨_, ⟨j, hj, ej⟩, hy2⟩ := hy.num h0 hn'
  have a : pl x ≤ pl y := by rw [ej]; exact hx2 (n - 1 - j) (by omega)
  have b : pl y ≤ pl x := by
    rw [ei]
    have := hy2 (n - 1 - i) (by omega)
    have e : n - 1 - (n - 1 - i) = i := by omega
    simp only [e] at this
    exact this
  have lx : x < 2 ^ 64 := by rw [ei]; exact hg i hi
  have ly : y < 2 ^ 64 := by rw [ej]; exact hg _ (by omega)
  rw [← ofPl_pl lx, ← ofPl_pl ly, Int.le_antisymm a b]
end Fl
namespace Fl
open Go Ieee
theorem fmin_lt {x y : Nat} (hx : x < 2 ^ 64) (hy : y < 2 ^ 64) : fmin x y < 2 ^ 64 := by
  unfold fmin NANQ
  split
  · decide
  · split <;> assumption
theorem fmax_lt {x y : Nat} (hx : x < 2 ^ 64) (hy : y < 2 ^ 64) : fmax x y < 2 ^ 64 := by
  unfold fmax NANQ
  split
  · decide
  · split <;> assumption
theorem or_one {F : Int} (h0 : 0 ≤ F) (h3 : F ≤ 3) : ∃ G : Int, bits .or .i64 F 1 = G ∧ 0 ≤ G ∧ G ≤ 3 ∧ G % 2 = 1 ∧ (2 ≤ F → 2 ≤ G) := by
  have hc : F = 0 ∨ F = 1 ∨ F = 2 ∨ F = 3 := by omega
  rcases hc with rfl | rfl | rfl | rfl
  · exact ⟨1, by decide, by decide, by decide, by decide, by decide⟩
  · exact ⟨1, by decide, by decide, by decide, by decide, by decide⟩
  · exact ⟨3, by decide, by decide, by decide, by decide, by decide⟩
  · exact ⟨3, by decide, by decide, by decide, by decide, by decide⟩
theorem or_two {F : Int} (h0 : 0 ≤ F) (h3 : F ≤ 3) : ∃ G : Int, bits .or .i64 F 2 = G ∧ 2 ≤ G ∧ G ≤ 3 ∧ (F % 2 = 1 → G % 2 = 1) := by
  have hc : F = 0 ∨ F = 1 ∨ F = 2 ∨ F = 3 := by omega
  rcases hc with rfl | rfl | rfl | rfl
  · exact ⟨2, by decide, by decide, by decide, by decide⟩
  · exact ⟨3, by decide, by decide, by decide, by decide⟩
  · exact ⟨2, by decide, by decide, by decide, by decide⟩
  · exact ⟨3, by decide, by decide, by decide, by decide⟩
theorem sameB_iff {x y : Nat} (nx : ¬ isNan x) : sameB x y = true ↔ x = y := by
  unfold sameB
  rw [decide_eq_true_iff]
  constructor
  · rintro (h | h)
    · exact h
    · exact absurd h.1 nx
  · exact .inl
/-- what stands at an end stands not ahead of it -/
theorem ord_not_lt {x y : Nat} (nx : ¬ isNan x) (ny : ¬ isNan y) (h : pl y ≤ pl x) : ∃ o : Int, ordI x y = o ∧ ¬ o < 0 := ⟨_, rfl, by
  rcases ordI_cases x y with ⟨e, g⟩ | ⟨e, g⟩ | ⟨e, g⟩
  · rw [plT_num nx, plT_num ny] at g; omega
  · rw [e]; decide
  · rw [e]; decide⟩
theorem ord_not_gt {x y : Nat} (nx : ¬ isNan x) (ny : ¬ isNan y) (h : pl x ≤ pl y) : ∃ o : Int, ordI x y = o ∧ ¬ 0 < o := ⟨_, rfl, by
  rcases ordI_cases x y with ⟨e, g⟩ | ⟨e, g⟩ | ⟨e, g⟩
  · rw [e]; decide
  · rw [e]; decide
  · rw [plT_num nx, plT_num ny] at g; omega⟩
end Fl
