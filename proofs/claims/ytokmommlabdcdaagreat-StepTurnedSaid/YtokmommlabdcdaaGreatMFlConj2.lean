/- Conjugates through complex quotients, but for the signs of noughts. No program in sight. Conjugated numbers through the complex operations, but for the signs of noughts. No program in sight. -/
import Derived.Test.YtokmommlabdcdaaGreatMFlLk
import Derived.Test.YtokmommlabdcdaaGreatMFlRel
import Derived.Test.YtokmommlabdcdaaGreatMFlUnit
set_option linter.unusedVariables false
set_option linter.unusedSimpArgs false
set_option linter.unusedVariables false
namespace Fl
open Ieee
theorem div_neg_r (x y : Nat) (hy : y < 2 ^ 64) : D.div x (neg y) = (D.div x y).map neg := by
  unfold Format.div
  rw [read_neg y hy]
  have key : ∀ (s : Bool) (m : Nat) (p : Int), D.nearest (!s) m p = neg (D.nearest s m p) := by
    intro s m p; rw [nearest_wd, nearest_wd, neg_wd _ _ (rq_lt _ _)]
  have key2 : ∀ s : Bool, D.word (!s) D.infRung = neg (D.word s D.infRung) := by
    intro s; rw [word_eq, word_eq, INF_word, neg_wd _ _ INF_lt]
  cases D.read x <;> cases D.read y <;> simp only [Datum.opposite, Datum.quotient, Option.map_none, Option.map_some, Format.write]
  · rename_i s m i t n j
    by_cases hn : n = 0
    · by_cases hm : m = 0
      · simp [hn, hm]
      · simp only [hn, hm, if_true, if_false, Option.map_some, Format.write]; rw [← key2]; simp
    · simp only [hn, if_false, Option.map_some, Format.write]; rw [← key]; simp
  · rw [← key]; simp
  · rw [← key2]; simp
theorem divNegR {x y x' y' r r' : Nat} (hy : y < 2 ^ 64) (h : FDiv x y r) (g : FDiv x' y' r') (h1 : Lk x x') (h2 : Lk (neg y) y') (h0 : rg y = 0 → rg x = 0 ∨ isNan x) : Lk (neg r) r' := by
  obtain ⟨q, hq⟩ := total (D.div x (neg y))
  have hr := h.lt
  have a : Lk (neg r) q := by
    have h' := h
    have hq' := hq
    unfold FDiv at h'
    rw [div_neg_r x y hy] at hq'
    rcases Res.map_neg h' hq' with a | a
    · exact .inl a
    · exact .inl (.inr ⟨(isNan_neg r hr).2 a.1, a.2⟩)
  exact a.trans (FDiv.lk (x := x) (y := neg y) hq g h1 h2 fun z => h0 ((rg_neg y hy).symm.trans z))
theorem divNN {x y x' y' r r' : Nat} (hx : x < 2 ^ 64) (hy : y < 2 ^ 64) (h : FDiv x y r) (g : FDiv x' y' r') (h1 : Lk (neg x) x') (h2 : Lk (neg y) y') (h0 : rg y = 0 → rg x = 0 ∨ isNan x) : Lk r r' := by
  obtain ⟨q, hq⟩ := total (D.div x (neg y))
  have hqF : FDiv x (neg y) q := hq
  have a := divNegR hy h hqF (.inl (.refl _)) (.inl (.refl _)) h0
  have b := divNegL hx hqF g h1 h2 (fun z => h0 ((rg_neg y hy).symm.trans z))
  have c : Lk (neg (neg r)) (neg q) := a.neg (neg_lt r h.lt) hqF.lt
  rw [neg_neg r h.lt] at c
  exact c.trans b
/-- c + d (d / c) is no nought -/
theorem t_ne {c d r m t : Nat} (e1 : FDiv d c r) (e2 : FMul d r m) (e3 : FAdd c m t) (h0 : rg c = 0 → rg d = 0 ∨ isNan d) : rg t ≠ 0 := by
  have nanT : isNan t → rg t ≠ 0 := fun h e => by unfold isNan at h; omega
  by_cases hc : rg c = 0
  · have hr : isNan r := by
      rcases h0 hc with hd | hd
      · unfold FDiv at e1
        rw [div_zero (zero_fin hd) (mv_rg.2 hc), if_pos (mv_rg.2 hd)] at e1
        exact e1.1
      · exact Res.nan e1 (div_nan d c (.inl hd))
    exact nanT (Res.nan e3 (add_nan c m (.inr (Res.nan e2 (mul_nan d r (.inr hr))))))
  have rgI : ∀ s, rg (wd s INF) ≠ 0 := fun s => by rw [rg_wd s INF INF_lt]; decide
  rcases kinds c with n | n | fc
  · exact nanT (Res.nan e3 (add_nan c m (.inl n)))
  · rcases kinds m with k | k | k
    · exact nanT (Res.nan e3 (add_nan c m (.inr k)))
    · unfold FAdd at e3
      rw [add_inf_inf n k] at e3
      by_cases s : sg c = sg m
      · rw [if_pos s] at e3; rw [show t = _ from e3]; exact rgI _
      · rw [if_neg s] at e3; exact nanT e3.1
    · unfold FAdd at e3
      rw [add_inf_l n k] at e3
      rw [show t = _ from e3]; exact rgI _
  rcases kinds m with k | k | fm
  · exact nanT (Res.nan e3 (add_nan c m (.inr k)))
  · have e := e3.comm
    unfold FAdd at e
    rw [add_inf_l k fc] at e
    rw [show t = _ from e]; exact rgI _
  have mc : mv c ≠ 0 := fun e => hc (mv_rg.1 e)
  have notm : ∀ s, m ≠ wd s INF := fun s e => by
    unfold fin at fm
    rw [e, rg_wd s INF INF_lt] at fm
    exact Nat.lt_irrefl _ fm
  have nanM : ¬ isNan m := fun e => by unfold isNan at e; unfold fin at fm; omega
  have hsg : sg m = sg c := by
    rcases kinds d with n | n | fd
    · exact absurd (Res.nan e2 (mul_nan d r (.inl n))) nanM
    · unfold FDiv at e1
      rw [div_inf_l n fc] at e1
      have hr : r = _ := e1
      have ri : rg r = INF := by rw [hr]; exact rg_wd _ INF INF_lt
      unfold FMul at e2
      rw [mul_inf_inf n ri] at e2
      exact absurd (show m = _ from e2) (notm _)
    · unfold FDiv at e1
      rw [div_fin d c fd fc mc] at e1
      have hr : r = _ := e1
      have rl := rq_lt (mv d * UN) (mv c)
      have sr : sg r = (sg d ^^ sg c) := by rw [hr]; exact sg_wd _ _ rl
      rcases kinds r with n | n | fr
      · exact absurd (Res.nan e2 (mul_nan d r (.inr n))) nanM
      · have e := e2.comm
        unfold FMul at e
        rw [mul_inf_l n fd] at e
        by_cases z : mv d = 0
        · rw [if_pos z] at e; exact absurd e.1 nanM
        · rw [if_neg z] at e; exact absurd (show m = _ from e) (notm _)
      · unfold FMul at e2
        rw [mul_fin d r fd fr] at e2
        have hm : m = _ := e2
        rw [hm, sg_wd _ _ (rq_lt _ _), sr]
        cases sg d <;> cases sg c <;> rfl
  unfold FAdd at e3
  rw [add_fin c m fc fm] at e3
  have T : iv c + iv m ≠ 0 := by
    unfold iv
    rw [hsg]
    split <;> omega
  rw [if_neg T] at e3
  rw [show t = _ from e3, rg_wd _ _ (rq_lt _ _)]
  exact rq_pos (by omega)
end Fl
set_option linter.unusedVariables false
namespace Fl
open Ieee
def Lt64 (z : Cpx) : Prop := z.1 < 2 ^ 64 ∧ z.2 < 2 ^ 64
/-- the conjugate, but for the signs of noughts -/
def CL (x y : Cpx) : Prop := Lk x.1 y.1 ∧ Lk (neg x.2) y.2
theorem addC {a b x a' b' x' : Cpx} (ha : Lt64 a) (hb : Lt64 b) (h : AddR a.1 a.2 b.1 b.2 x.1 x.2) (g : AddR a'.1 a'.2 b'.1 b'.2 x'.1 x'.2) (h1 : CL a a') (h2 : CL b b') : CL x x' :=
  ⟨h.1.lk g.1 h1.1 h2.1, addNeg ha.2 hb.2 h.2 g.2 h1.2 h2.2⟩
theorem subC {a b x a' b' x' : Cpx} (ha : Lt64 a) (hb : Lt64 b) (hb' : Lt64 b') (h : SubR a.1 a.2 b.1 b.2 x.1 x.2) (g : SubR a'.1 a'.2 b'.1 b'.2 x'.1 x'.2) (h1 : CL a a') (h2 : CL b b') : CL x x' :=
  ⟨h.1.lk g.1 hb.1 hb'.1 h1.1 h2.1, subNeg ha.2 hb.2 hb'.2 h.2 g.2 h1.2 h2.2⟩
theorem mulC {a b x a' b' x' : Cpx} (ha : Lt64 a) (hb : Lt64 b) (h : MulR a.1 a.2 b.1 b.2 x.1 x.2) (g : MulR a'.1 a'.2 b'.1 b'.2 x'.1 x'.2) (h1 : CL a a') (h2 : CL b b') : CL x x' := by
  obtain ⟨p, q, r, s, e1, e2, e3, e4, e5, e6⟩ := h
  obtain ⟨p', q', r', s', f1, f2, f3, f4, f5, f6⟩ := g
  exact ⟨e3.lk f3 e2.lt f2.lt (e1.lk f1 h1.1 h2.1) (mulNN ha.2 hb.2 e2 f2 h1.2 h2.2), addNeg e4.lt e5.lt e6 f6 (mulNegR hb.2 e4 f4 h1.1 h2.2) (mulNegL ha.2 e5 f5 h1.2 h2.1)⟩
theorem rgSame {x y : Nat} (h : Lk x y) : Same (rg x) (rg y) := by
  rcases h with (rfl | ⟨a, b⟩) | ⟨a, b⟩
  · exact .refl _
  · refine .inr ⟨?_, ?_⟩
    · unfold isNan rg at *; rw [Nat.mod_mod]; exact a
    · unfold isNan rg at *; rw [Nat.mod_mod]; exact b
  · rw [a, b]; exact .refl _
theorem geB_lk {c d c' d' : Nat} (hd : d < 2 ^ 64) (h1 : Lk c c') (h2 : Lk (neg d) d') : geB (rg c) (rg d) = geB (rg c') (rg d') := by
  have rr : ∀ x, rg (rg x) = rg x := fun x => Nat.mod_eq_of_lt (rg_lt x)
  have a := rgSame h1
  have b := rgSame h2
  rw [rg_neg d hd] at b
  have := geB_cong a b
  rwa [rr, rr, rr, rr] at this
theorem isV_self {x : Nat} (h : fin x) (hx : x < 2 ^ 64) : IsV x (iv x) := ⟨h, hx, rfl⟩
theorem geB_z1 {c d : Nat} (hc : c < 2 ^ 64) (hd : d < 2 ^ 64) (h : geB (rg c) (rg d) = true) (z : rg c = 0) : rg d = 0 ∨ isNan d := by
  rcases kinds d with n | n | fd
  · exact .inr n
  · rw [z, n] at h
    exact absurd h (by decide)
  · left
    rw [geB_mv (isV_self (zero_fin z) hc) (isV_self fd hd), iv_zero_rg z] at h
    have := of_decide_eq_true h
    have e : mv d = 0 := by rw [← iv_natAbs]; omega
    exact mv_rg.1 e
theorem geB_z2 {c d : Nat} (hc : c < 2 ^ 64) (hd : d < 2 ^ 64) (h : geB (rg c) (rg d) = false) (z : rg d = 0) : rg c = 0 ∨ isNan c := by
  rcases kinds c with n | n | fc
  · exact .inr n
  · rw [z, n] at h
    exact absurd h (by decide)
  · rw [geB_mv (isV_self fc hc) (isV_self (zero_fin z) hd), iv_zero_rg z] at h
    have := of_decide_eq_false h
    omega
theorem divC {a b x a' b' x' : Cpx} (ha : Lt64 a) (hb : Lt64 b) (ha' : Lt64 a') (h : DivR a.1 a.2 b.1 b.2 x.1 x.2) (g : DivR a'.1 a'.2 b'.1 b'.2 x'.1 x'.2) (h1 : CL a a') (h2 : CL b b') : CL x x' := by
  have hg := geB_lk hb.2 h2.1 h2.2
  rcases h with ⟨e0, r, m, t, m1, n1, m2, n2, e1, e2, e3, e4, e5, e6, e7, e8, e9⟩ | ⟨e0, r, m, t, m1, n1, m2, n2, e1, e2, e3, e4, e5, e6, e7, e8, e9⟩
  · rcases g with ⟨f0, r', m', t', m1', n1', m2', n2', f1, f2, f3, f4, f5, f6, f7, f8, f9⟩ | ⟨f0, _⟩
    · have z := geB_z1 hb.1 hb.2 e0
      have tn := t_ne e1 e2 e3 z
      have R := divNegL hb.2 e1 f1 h2.2 h2.1 z
      have T := e3.lk f3 h2.1 (mulNN hb.2 e1.lt e2 f2 h2.2 R)
      have N1 := e5.lk f5 h1.1 (mulNN ha.2 e1.lt e4 f4 h1.2 R)
      have N2 := subNeg ha.2 e7.lt f7.lt e8 f8 h1.2 (mulNegR e1.lt e7 f7 h1.1 R)
      exact ⟨e6.lk f6 N1 T (fun e => absurd e tn), divNegL e8.lt e9 f9 N2 T (fun e => absurd e tn)⟩
    · rw [e0, f0] at hg; cases hg
  · rcases g with ⟨f0, _⟩ | ⟨f0, r', m', t', m1', n1', m2', n2', f1, f2, f3, f4, f5, f6, f7, f8, f9⟩
    · rw [e0, f0] at hg; cases hg
    · have z := geB_z2 hb.1 hb.2 e0
      have tn := t_ne e1 e2 e3.comm z
      have R := divNegR hb.2 e1 f1 h2.1 h2.2 z
      have T := addNeg e2.lt hb.2 e3 f3 (mulNegR e1.lt e2 f2 h2.1 R) h2.2
      have N1 := addNeg e4.lt ha.2 e5 f5 (mulNegR e1.lt e4 f4 h1.1 R) h1.2
      have N2 := e8.lk f8 ha.1 ha'.1 (mulNN ha.2 e1.lt e7 f7 h1.2 R) h1.1
      exact ⟨divNN e5.lt e3.lt e6 f6 N1 T (fun e => absurd e tn), divNegR e3.lt e9 f9 N2 T (fun e => absurd e tn)⟩
end Fl
