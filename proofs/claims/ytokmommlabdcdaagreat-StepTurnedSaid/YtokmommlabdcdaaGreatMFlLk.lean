/- The same but for the signs of noughts, through sums, products and quotients. No program in sight. Conjugates through sums, products and quotients, but for the signs of noughts. No program in sight. -/
import Derived.Test.YtokmommlabdcdaaGreatMFlRel
set_option linter.unusedVariables false
set_option linter.unusedSimpArgs false
set_option linter.unusedVariables false
namespace Fl
open Ieee
theorem zero_fin {x : Nat} (h : rg x = 0) : fin x := by unfold fin; rw [h]; decide
theorem kinds (x : Nat) : isNan x ∨ rg x = INF ∨ fin x := by unfold isNan fin; omega
theorem rg_wd0 (s : Bool) : rg (wd s 0) = 0 := rg_wd s 0 (by decide)
theorem Lk.symm {x y : Nat} (h : Lk x y) : Lk y x := by
  rcases h with h | ⟨a, b⟩
  · exact .inl h.symm
  · exact .inr ⟨b, a⟩
theorem Same.of_lk {x y : Nat} (h : Lk x y) (n : rg x ≠ 0) : Same x y := by
  rcases h with h | ⟨a, _⟩
  · exact h
  · exact absurd a n
theorem Lk.zero {x y : Nat} (h : Lk x y) (n : rg x = 0) : rg y = 0 := by
  rcases h with (rfl | ⟨a, _⟩) | ⟨_, b⟩
  · exact n
  · unfold isNan at a; rw [n] at a; exact absurd a (Nat.not_lt_zero _)
  · exact b
theorem Lk.trans {x y z : Nat} (h : Lk x y) (g : Lk y z) : Lk x z := by
  by_cases n : rg x = 0
  · exact .inr ⟨n, g.zero (h.zero n)⟩
  · have hs := Same.of_lk h n
    by_cases m : rg y = 0
    · exact absurd (h.symm.zero m) n
    · exact .inl (hs.trans (Same.of_lk g m))
theorem iv_zero_rg {x : Nat} (h : rg x = 0) : iv x = 0 := by
  have := mv_rg.2 h
  unfold iv
  rw [this]
  split <;> rfl
theorem iv_lk {x y : Nat} (h : Lk x y) (hx : fin x) : iv x = iv y := by
  rcases h with (rfl | ⟨a, _⟩) | ⟨a, b⟩
  · rfl
  · unfold isNan at a; unfold fin at hx; omega
  · rw [iv_zero_rg a, iv_zero_rg b]
theorem fin_lk {x y : Nat} (h : Lk x y) (hx : fin x) : fin y := by
  rcases h with (rfl | ⟨a, _⟩) | ⟨a, b⟩
  · exact hx
  · unfold isNan at a; unfold fin at hx; omega
  · exact zero_fin b
theorem add_fin_lk {x y x' y' r r' : Nat} (h : FAdd x y r) (g : FAdd x' y' r') (hx : Lk x x') (hy : Lk y y') (fx : fin x) (fy : fin y) : Lk r r' := by
  have fx' := fin_lk hx fx
  have fy' := fin_lk hy fy
  unfold FAdd at h g
  rw [add_fin x y fx fy] at h
  rw [add_fin x' y' fx' fy', ← iv_lk hx fx, ← iv_lk hy fy] at g
  have h : r = _ := h
  have g : r' = _ := g
  by_cases T : iv x + iv y = 0
  · refine .inr ⟨?_, ?_⟩
    · rw [h, if_pos T, T]; exact (congrArg rg (congrArg _ (rq_zero 1))).trans (rg_wd0 _)
    · rw [g, if_pos T, T]; exact (congrArg rg (congrArg _ (rq_zero 1))).trans (rg_wd0 _)
  · rw [if_neg T] at h g
    exact .inl (.inl (h.trans g.symm))
theorem lk_word {x y : Nat} (h : Same x y) (n : ¬ isNan x) : x = y := by
  rcases h with h | ⟨a, _⟩
  · exact h
  · exact absurd a n
theorem add_zero_lk {x y x' y' r r' : Nat} (h : FAdd x y r) (g : FAdd x' y' r') (hx : rg x = 0) (hx' : rg x' = 0) (hy : Lk y y') : Lk r r' := by
  rcases kinds y with n | n | n
  · have n' : isNan y' := by
      rcases Same.of_lk hy (by unfold isNan at n; omega) with e | ⟨_, e⟩
      · exact e ▸ n
      · exact e
    exact .inl (.inr ⟨Res.nan h (add_nan x y (.inr n)), Res.nan g (add_nan x' y' (.inr n'))⟩)
  · have e : y = y' := lk_word (Same.of_lk hy (by rw [n]; decide)) (by unfold isNan; omega)
    subst e
    have a := h.comm
    have b := g.comm
    unfold FAdd at a b
    rw [add_inf_l n (zero_fin hx)] at a
    rw [add_inf_l n (zero_fin hx')] at b
    exact .inl (.inl ((show r = _ from a).trans (show r' = _ from b).symm))
  · exact add_fin_lk h g (.inr ⟨hx, hx'⟩) hy (zero_fin hx) n
theorem FAdd.lk {x y x' y' r r' : Nat} (h : FAdd x y r) (g : FAdd x' y' r') (hx : Lk x x') (hy : Lk y y') : Lk r r' := by
  rcases hx with hx | ⟨a, b⟩
  · rcases hy with hy | ⟨a, b⟩
    · exact .inl (h.cong g hx hy)
    · exact add_zero_lk h.comm g.comm a b (.inl hx)
  · exact add_zero_lk h g a b hy
theorem mul_zero_lk {x y x' y' r r' : Nat} (h : FMul x y r) (g : FMul x' y' r') (hx : rg x = 0) (hx' : rg x' = 0) (hy : Lk y y') : Lk r r' := by
  rcases kinds y with n | n | n
  · have n' : isNan y' := by
      rcases Same.of_lk hy (by unfold isNan at n; omega) with e | ⟨_, e⟩
      · exact e ▸ n
      · exact e
    exact .inl (.inr ⟨Res.nan h (mul_nan x y (.inr n)), Res.nan g (mul_nan x' y' (.inr n'))⟩)
  · have e : y = y' := lk_word (Same.of_lk hy (by rw [n]; decide)) (by unfold isNan; omega)
    subst e
    have a := h.comm
    have b := g.comm
    unfold FMul at a b
    rw [mul_inf_l n (zero_fin hx), if_pos (mv_rg.2 hx)] at a
    rw [mul_inf_l n (zero_fin hx'), if_pos (mv_rg.2 hx')] at b
    exact .inl (.inr ⟨a.1, b.1⟩)
  · have n' := fin_lk hy n
    unfold FMul at h g
    rw [mul_fin x y (zero_fin hx) n, mv_rg.2 hx, Nat.zero_mul, rq_zero] at h
    rw [mul_fin x' y' (zero_fin hx') n', mv_rg.2 hx', Nat.zero_mul, rq_zero] at g
    have h : r = _ := h
    have g : r' = _ := g
    exact .inr ⟨by rw [h]; exact rg_wd0 _, by rw [g]; exact rg_wd0 _⟩
theorem FMul.lk {x y x' y' r r' : Nat} (h : FMul x y r) (g : FMul x' y' r') (hx : Lk x x') (hy : Lk y y') : Lk r r' := by
  rcases hx with hx | ⟨a, b⟩
  · rcases hy with hy | ⟨a, b⟩
    · exact .inl (h.cong g hx hy)
    · exact mul_zero_lk h.comm g.comm a b (.inl hx)
  · exact mul_zero_lk h g a b hy
/-- the divisor the very same, or a nought of any sign under a nought -/
theorem FDiv.lk {x y x' y' r r' : Nat} (h : FDiv x y r) (g : FDiv x' y' r') (hx : Lk x x') (hy : Lk y y') (h0 : rg y = 0 → rg x = 0 ∨ isNan x) : Lk r r' := by
  by_cases z : rg y = 0
  · have z' := hy.zero z
    rcases h0 z with n | n
    · have n' := hx.zero n
      unfold FDiv at h g
      rw [div_zero (zero_fin n) (mv_rg.2 z), if_pos (mv_rg.2 n)] at h
      rw [div_zero (zero_fin n') (mv_rg.2 z'), if_pos (mv_rg.2 n')] at g
      exact .inl (.inr ⟨h.1, g.1⟩)
    · have n' : isNan x' := by
        rcases Same.of_lk hx (by unfold isNan at n; omega) with e | ⟨_, e⟩
        · exact e ▸ n
        · exact e
      exact .inl (.inr ⟨Res.nan h (div_nan x y (.inl n)), Res.nan g (div_nan x' y' (.inl n'))⟩)
  · have hs := Same.of_lk hy z
    rcases hx with hx | ⟨a, b⟩
    · exact .inl (h.cong g hx hs)
    · rcases kinds y with n | n | n
      · have n' : isNan y' := by
          rcases hs with e | ⟨_, e⟩
          · exact e ▸ n
          · exact e
        exact .inl (.inr ⟨Res.nan h (div_nan x y (.inr n)), Res.nan g (div_nan x' y' (.inr n'))⟩)
      · have e : y = y' := lk_word hs (by unfold isNan; omega)
        subst e
        unfold FDiv at h g
        rw [div_inf_r (zero_fin a) n] at h
        rw [div_inf_r (zero_fin b) n] at g
        have h : r = _ := h
        have g : r' = _ := g
        exact .inr ⟨by rw [h]; exact rg_wd0 _, by rw [g]; exact rg_wd0 _⟩
      · have e : y = y' := lk_word hs (by unfold isNan; unfold fin at n; omega)
        subst e
        have m0 : mv y ≠ 0 := fun e => z (mv_rg.1 e)
        unfold FDiv at h g
        rw [div_fin x y (zero_fin a) n m0, mv_rg.2 a, Nat.zero_mul, rq_zero] at h
        rw [div_fin x' y (zero_fin b) n m0, mv_rg.2 b, Nat.zero_mul, rq_zero] at g
        have h : r = _ := h
        have g : r' = _ := g
        exact .inr ⟨by rw [h]; exact rg_wd0 _, by rw [g]; exact rg_wd0 _⟩
theorem Lk.neg {x y : Nat} (hx : x < 2 ^ 64) (hy : y < 2 ^ 64) (h : Lk x y) : Lk (Fl.neg x) (Fl.neg y) := by
  rcases h with h | ⟨a, b⟩
  · exact .inl (h.neg hx hy)
  · exact .inr ⟨(rg_neg x hx).trans a, (rg_neg y hy).trans b⟩
theorem FSub.lk {x y x' y' r r' : Nat} (h : FSub x y r) (g : FSub x' y' r') (hy64 : y < 2 ^ 64) (hy64' : y' < 2 ^ 64) (hx : Lk x x') (hy : Lk y y') : Lk r r' :=
  (h.add hy64).lk (g.add hy64') hx (hy.neg hy64 hy64')
end Fl
set_option linter.unusedVariables false
namespace Fl
open Ieee
theorem total (o : Option Nat) : ∃ r, Res o r := by
  cases o with
  | none => exact ⟨9221120237041090561, nanQ⟩
  | some q => exact ⟨q, rfl⟩
theorem addNeg {x y x' y' r r' : Nat} (hx : x < 2 ^ 64) (hy : y < 2 ^ 64) (h : FAdd x y r) (g : FAdd x' y' r') (h1 : Lk (neg x) x') (h2 : Lk (neg y) y') : Lk (neg r) r' := by
  obtain ⟨q, hq⟩ := total (D.add (neg x) (neg y))
  exact (FAdd.neg_lk hx hy h hq).trans (FAdd.lk hq g h1 h2)
theorem subNeg {x y x' y' r r' : Nat} (hx : x < 2 ^ 64) (hy : y < 2 ^ 64) (hy' : y' < 2 ^ 64) (h : FSub x y r) (g : FSub x' y' r') (h1 : Lk (neg x) x') (h2 : Lk (neg y) y') : Lk (neg r) r' := by
  obtain ⟨q, hq⟩ := total (D.sub (neg x) (neg y))
  exact (FSub.neg_lk hx hy h hq).trans (FSub.lk hq g (neg_lt y hy) hy' h1 h2)
theorem mulNegL {x y x' y' r r' : Nat} (hx : x < 2 ^ 64) (h : FMul x y r) (g : FMul x' y' r') (h1 : Lk (neg x) x') (h2 : Lk y y') : Lk (neg r) r' := by
  obtain ⟨q, hq⟩ := total (D.mul (neg x) y)
  exact (Same.lk (FMul.neg_l hx h hq)).trans (FMul.lk hq g h1 h2)
theorem mulNegR {x y x' y' r r' : Nat} (hy : y < 2 ^ 64) (h : FMul x y r) (g : FMul x' y' r') (h1 : Lk x x') (h2 : Lk (neg y) y') : Lk (neg r) r' := mulNegL hy h.comm g.comm h2 h1
theorem mulNN {x y x' y' r r' : Nat} (hx : x < 2 ^ 64) (hy : y < 2 ^ 64) (h : FMul x y r) (g : FMul x' y' r') (h1 : Lk (neg x) x') (h2 : Lk (neg y) y') : Lk r r' := by
  obtain ⟨q, hq⟩ := total (D.mul (neg x) y)
  have a := FMul.neg_l hx h hq
  have b := mulNegR hy hq g h1 h2
  have c : Lk (neg (neg r)) (neg q) := (Same.lk a).neg (neg_lt r h.lt) (FMul.lt (x := neg x) (y := y) hq)
  rw [neg_neg r h.lt] at c
  exact c.trans b
theorem div_neg_l (x y : Nat) (hx : x < 2 ^ 64) : D.div (neg x) y = (D.div x y).map neg := by
  unfold Format.div
  rw [read_neg x hx]
  have key : ∀ (s : Bool) (m : Nat) (p : Int), D.nearest (!s) m p = neg (D.nearest s m p) := by
    intro s m p; rw [nearest_wd, nearest_wd, neg_wd _ _ (rq_lt _ _)]
  have key2 : ∀ s : Bool, D.word (!s) D.infRung = neg (D.word s D.infRung) := by
    intro s; rw [word_eq, word_eq, INF_word, neg_wd _ _ INF_lt]
  cases D.read x <;> cases D.read y <;> simp only [Datum.opposite, Datum.quotient, Option.map_none, Option.map_some, Format.write]
  · rename_i s m i t n j
    by_cases hn : n = 0
    · by_cases hm : m = 0
      · simp [hn, hm]
      · simp only [hn, hm, if_true, if_false, Option.map_some, Format.write]; rw [← key2]; simp
    · simp only [hn, if_false, Option.map_some, Format.write]; rw [← key]; simp
  · rw [← key]; simp
  · rw [← key2]; simp
theorem divNegL {x y x' y' r r' : Nat} (hx : x < 2 ^ 64) (h : FDiv x y r) (g : FDiv x' y' r') (h1 : Lk (neg x) x') (h2 : Lk y y') (h0 : rg y = 0 → rg x = 0 ∨ isNan x) : Lk (neg r) r' := by
  obtain ⟨q, hq⟩ := total (D.div (neg x) y)
  have hr := h.lt
  have a : Lk (neg r) q := by
    have h' := h
    have hq' := hq
    unfold FDiv at h'
    rw [div_neg_l x y hx] at hq'
    rcases Res.map_neg h' hq' with a | a
    · exact .inl a
    · exact .inl (.inr ⟨(isNan_neg r hr).2 a.1, a.2⟩)
  refine a.trans (FDiv.lk (x := neg x) (y := y) hq g h1 h2 fun z => ?_)
  rcases h0 z with n | n
  · exact .inl ((rg_neg x hx).trans n)
  · exact .inr ((isNan_neg x hx).2 n)
theorem rq_pos {n : Nat} (h : n ≠ 0) : rq n 1 ≠ 0 := by
  have h1 : rq 1 1 = 1 := rq_exact (r := 1) (d := 1) (by decide) (by decide)
  have h2 : rungQ 1 1 ≤ rungQ n 1 := rungQ_mono 1 1 n 1 (by decide) (by decide) (by omega)
  unfold rq at *
  have : 0 < INF := by decide
  omega
end Fl
