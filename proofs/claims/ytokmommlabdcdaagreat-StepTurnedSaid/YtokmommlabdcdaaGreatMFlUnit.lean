/- Floats that are a small whole number times a power of two; products and quotients by the four units times a power of two, exact. No program in sight. No conditions. -/
import Derived.Test.YtokmommlabdcdaaGreatMFlRel
set_option linter.unusedVariables false
set_option linter.unusedSimpArgs false
set_option linter.unusedVariables false
set_option linter.unusedSimpArgs false
namespace Fl
open Ieee
def IsV (x : Nat) (v : Int) : Prop := fin x ∧ x < 2 ^ 64 ∧ iv x = v
def Rep (v : Int) : Prop := ∃ r, r < INF ∧ valR r = v.natAbs
theorem rep_nat {n L : Nat} (hn : n < 2 ^ 53) (h1 : 53 ≤ L) (h2 : L ≤ 2000) : ∃ r, r < INF ∧ valR r = n * 2 ^ L := by
  by_cases h0 : n = 0
  · subst h0
    refine ⟨0, by decide, ?_⟩
    have := valR_mk 0 0 (by decide) (.inl rfl)
    simpa using this
  · have l1 := pow_log2_le h0
    have l2 := lt_log2_pow n
    have hl : n.log2 ≤ 52 := log2_lt_pow hn
    obtain ⟨s, hs⟩ : ∃ s, s + n.log2 = 52 := ⟨52 - n.log2, by omega⟩
    have k1 : 2 ^ 52 ≤ n * 2 ^ s := by
      rw [← hs, Nat.pow_add, Nat.mul_comm]
      exact Nat.mul_le_mul_right _ l1
    have k2 : n * 2 ^ s < 2 ^ 53 := by
      rw [show 53 = (n.log2 + 1) + s by omega, Nat.pow_add]
      exact Nat.mul_lt_mul_of_pos_right l2 (Nat.two_pow_pos s)
    refine ⟨(L - s) * 2 ^ 52 + n * 2 ^ s, ?_, ?_⟩
    · unfold INF; omega
    · rw [valR_mk _ _ (Nat.le_of_lt k2) (.inr k1), Nat.mul_assoc, ← Nat.pow_add, show s + (L - s) = L by omega]
theorem Rep.of {k : Int} {L : Nat} (hk : k.natAbs < 2 ^ 53) (h1 : 53 ≤ L) (h2 : L ≤ 2000) : Rep (k * ((2 ^ L : Nat) : Int)) := by
  obtain ⟨r, a, b⟩ := rep_nat hk h1 h2
  exact ⟨r, a, by rw [b, Int.natAbs_mul, Int.natAbs_natCast]⟩
theorem iv_wd_of {s : Bool} {r : Nat} {v : Int} (hr : r < INF) (h : valR r = v.natAbs) (hs : v ≠ 0 → s = decide (v < 0)) : IsV (wd s r) v := by
  refine ⟨fin_wd hr, wd_lt _ _ (Nat.lt_trans hr INF_63), ?_⟩
  rw [iv_wd hr, h]
  by_cases c : v = 0
  · subst c; cases s <;> rfl
  · rw [hs c]
    by_cases d : v < 0
    · rw [decide_eq_true d, if_pos rfl]; omega
    · rw [decide_eq_false d, if_neg (by simp)]; omega
theorem IsV.add {x y r : Nat} {a b : Int} (hx : IsV x a) (hy : IsV y b) (h : FAdd x y r) (hr : Rep (a + b)) : IsV r (a + b) := by
  obtain ⟨ρ, h1, h2⟩ := hr
  have e := add_fin x y hx.1 hy.1
  rw [hx.2.2, hy.2.2] at e
  rw [Res.eq h e]
  have hq : rq (a + b).natAbs 1 = ρ := by
    have := rq_exact (d := 1) h1 (by decide)
    rwa [Nat.mul_one, h2] at this
  rw [hq]
  exact iv_wd_of h1 h2 (fun c => if_neg c)
theorem IsV.neg {x : Nat} {a : Int} (hx : IsV x a) : IsV (neg x) (-a) := ⟨(fin_neg x hx.2.1).2 hx.1, neg_lt x hx.2.1, by rw [iv_neg hx.2.1, hx.2.2]⟩
theorem IsV.sub {x y r : Nat} {a b : Int} (hx : IsV x a) (hy : IsV y b) (h : FSub x y r) (hr : Rep (a - b)) : IsV r (a - b) := by
  rw [Int.sub_eq_add_neg] at hr ⊢
  exact hx.add hy.neg (h.add hy.2.1) hr
theorem mv_of {x : Nat} {a : Int} (hx : IsV x a) : mv x = a.natAbs := by rw [← iv_natAbs, hx.2.2]
theorem sign_mul {v a b : Int} {U : Nat} (hU : 0 < U) (hv : a * b = v * U) : v < 0 ↔ a * b < 0 := by
  have hU' : (0 : Int) < U := by omega
  rw [hv]
  constructor
  · intro h; exact Int.mul_neg_of_neg_of_pos h hU'
  · intro h
    rcases Int.lt_or_le v 0 with g | g
    · exact g
    · have := Int.mul_nonneg g (Int.le_of_lt hU'); omega
theorem IsV.mul {x y r : Nat} {a b v : Int} (hx : IsV x a) (hy : IsV y b) (h : FMul x y r) (hv : a * b = v * UN) (hr : Rep v) : IsV r v := by
  obtain ⟨ρ, h1, h2⟩ := hr
  have e := mul_fin x y hx.1 hy.1
  rw [mv_of hx, mv_of hy] at e
  rw [Res.eq h e]
  have hab : a.natAbs * b.natAbs = v.natAbs * UN := by
    have := congrArg Int.natAbs hv
    rwa [Int.natAbs_mul, Int.natAbs_mul, Int.natAbs_natCast] at this
  have hq : rq (a.natAbs * b.natAbs) UN = ρ := by rw [hab, ← h2]; exact rq_exact h1 UN_pos
  rw [hq]
  refine iv_wd_of h1 h2 (fun c => ?_)
  have hne : iv x * iv y ≠ 0 := by
    rw [hx.2.2, hy.2.2, hv]
    have := UN_pos
    exact Int.mul_ne_zero c (by omega)
  rw [sg_xor_neg hne, hx.2.2, hy.2.2]
  exact decide_eq_decide.2 (sign_mul UN_pos hv).symm
theorem IsV.div {x y r : Nat} {a b v : Int} (hx : IsV x a) (hy : IsV y b) (h : FDiv x y r) (hb : b ≠ 0) (hv : a * UN = v * b) (hr : Rep v) : IsV r v := by
  obtain ⟨ρ, h1, h2⟩ := hr
  have hb' : 0 < b.natAbs := Int.natAbs_pos.2 hb
  have e := div_fin x y hx.1 hy.1 (by rw [mv_of hy]; omega)
  rw [mv_of hx, mv_of hy] at e
  rw [Res.eq h e]
  have hab : a.natAbs * UN = v.natAbs * b.natAbs := by
    have := congrArg Int.natAbs hv
    rwa [Int.natAbs_mul, Int.natAbs_mul, Int.natAbs_natCast] at this
  have hq : rq (a.natAbs * UN) b.natAbs = ρ := by rw [hab, ← h2]; exact rq_exact h1 hb'
  rw [hq]
  refine iv_wd_of h1 h2 (fun c => ?_)
  have hU := UN_pos
  have ha : a ≠ 0 := by
    rintro rfl
    rw [Int.zero_mul] at hv
    rcases Int.mul_eq_zero.1 hv.symm with h | h
    · exact c h
    · exact hb h
  have hne : iv x * iv y ≠ 0 := by rw [hx.2.2, hy.2.2]; exact Int.mul_ne_zero ha hb
  rw [sg_xor_neg hne, hx.2.2, hy.2.2]
  refine decide_eq_decide.2 ?_
  -- a b U = v b b
  have e2 : a * b * UN = v * (b * b) := by rw [Int.mul_right_comm, hv, Int.mul_assoc]
  have hbb : 0 < b * b := by
    rcases Int.lt_or_gt_of_ne hb with g | g
    · exact Int.mul_pos_of_neg_of_neg g g
    · exact Int.mul_pos g g
  have hU' : (0 : Int) < UN := by omega
  constructor
  · intro g
    have : a * b * UN < 0 := Int.mul_neg_of_neg_of_pos g hU'
    rw [e2] at this
    rcases Int.lt_or_le v 0 with k | k
    · exact k
    · have := Int.mul_nonneg k (Int.le_of_lt hbb); omega
  · intro g
    have : v * (b * b) < 0 := Int.mul_neg_of_neg_of_pos g hbb
    rw [← e2] at this
    rcases Int.lt_or_le (a * b) 0 with k | k
    · exact k
    · have := Int.mul_nonneg k (Int.le_of_lt hU'); omega
/-- one of the four units -/
def Un (g h : Int) : Prop := (g = 1 ∧ h = 0) ∨ (g = 0 ∧ h = 1) ∨ (g = -1 ∧ h = 0) ∨ (g = 0 ∧ h = -1)
theorem Rep.zero : Rep 0 := ⟨0, by decide, by decide⟩
/-- a product by a unit times a power of two -/
theorem mul_unit {a b c d x y p u s : Nat} {m n g h : Int} (ha : IsV a (m * ((2 ^ p : Nat) : Int))) (hb : IsV b (n * ((2 ^ p : Nat) : Int))) (hc : IsV c (g * ((2 ^ u : Nat) : Int))) (hd : IsV d (h * ((2 ^ u : Nat) : Int)))
    (hm : m.natAbs ≤ 2 ^ 24) (hn : n.natAbs ≤ 2 ^ 24) (hu : Un g h) (hs : 2 ^ p * 2 ^ u = 2 ^ s * UN) (h1 : 53 ≤ s) (h2 : s ≤ 2000) (H : MulR a b c d x y) :
    IsV x ((m * g - n * h) * ((2 ^ s : Nat) : Int)) ∧ IsV y ((m * h + n * g) * ((2 ^ s : Nat) : Int)) := by
  obtain ⟨e, f, q, r, E1, E2, E3, E4, E5, E6⟩ := H
  have hsI : ((2 ^ p : Nat) : Int) * ((2 ^ u : Nat) : Int) = ((2 ^ s : Nat) : Int) * (UN : Int) := by rw [← Int.natCast_mul, ← Int.natCast_mul, hs]
  have key : ∀ i j : Int, (i * ((2 ^ p : Nat) : Int)) * (j * ((2 ^ u : Nat) : Int)) = (i * j * ((2 ^ s : Nat) : Int)) * (UN : Int) := fun i j => by
    rw [Int.mul_assoc (i * j), ← hsI]
    generalize ((2 ^ p : Nat) : Int) = P
    generalize ((2 ^ u : Nat) : Int) = U
    rw [Int.mul_assoc, Int.mul_left_comm P, Int.mul_assoc]
  have hr : ∀ k : Int, k.natAbs ≤ 2 ^ 26 → Rep (k * ((2 ^ s : Nat) : Int)) := fun k hk => Rep.of (by omega) h1 h2
  have b1 : ∀ i j : Int, i.natAbs ≤ 2 ^ 24 → (j = 1 ∨ j = 0 ∨ j = -1) → (i * j).natAbs ≤ 2 ^ 24 := fun i j hi hj => by
    rw [Int.natAbs_mul]
    rcases hj with rfl | rfl | rfl <;> simp <;> omega
  have hg : g = 1 ∨ g = 0 ∨ g = -1 := by unfold Un at hu; omega
  have hh : h = 1 ∨ h = 0 ∨ h = -1 := by unfold Un at hu; omega
  have V1 := ha.mul hc E1 (key m g) (hr _ (Nat.le_trans (b1 m g hm hg) (by decide)))
  have V2 := hb.mul hd E2 (key n h) (hr _ (Nat.le_trans (b1 n h hn hh) (by decide)))
  have V4 := ha.mul hd E4 (key m h) (hr _ (Nat.le_trans (b1 m h hm hh) (by decide)))
  have V5 := hb.mul hc E5 (key n g) (hr _ (Nat.le_trans (b1 n g hn hg) (by decide)))
  have c1 := b1 m g hm hg
  have c2 := b1 n h hn hh
  have c3 := b1 m h hm hh
  have c4 := b1 n g hn hg
  constructor
  · rw [Int.sub_mul]
    exact V1.sub V2 E3 (by rw [← Int.sub_mul]; exact hr _ (by omega))
  · rw [Int.add_mul]
    exact V4.add V5 E6 (by rw [← Int.add_mul]; exact hr _ (by omega))
theorem geB_mv {c d : Nat} {e f : Int} (hc : IsV c e) (hd : IsV d f) : geB (rg c) (rg d) = decide (f.natAbs ≤ e.natAbs) := by
  have fc : fin (rg c) := by have := hc.1; unfold fin at *; unfold rg at *; omega
  have fd : fin (rg d) := by have := hd.1; unfold fin at *; unfold rg at *; omega
  have hs : ∀ x, sg (rg x) = false := fun x => by unfold sg; rw [Nat.div_eq_of_lt (rg_lt x)]; rfl
  have hv : ∀ x, iv (rg x) = (mv x : Int) := fun x => by
    unfold iv
    rw [hs x, if_neg (by simp)]
    unfold mv
    rw [show rg (rg x) = rg x from Nat.mod_eq_of_lt (rg_lt x)]
  have h := order_fin (rg c) (rg d) fc fd
  rw [hv, hv, mv_of hc, mv_of hd] at h
  unfold geB
  rw [show Go.FloatKind.f64.format.order (rg c) (rg d) = some (compare ((e.natAbs : Int)) (f.natAbs : Int)) from h]
  rcases Nat.lt_trichotomy e.natAbs f.natAbs with g | g | g
  · rw [Int.compare_eq_lt.2 (by omega), decide_eq_false (by omega)]; rfl
  · rw [g, Int.compare_eq_eq.2 rfl, decide_eq_true (Nat.le_refl _)]; rfl
  · rw [Int.compare_eq_gt.2 (by omega), decide_eq_true (by omega)]; rfl
/-- a quotient by a unit times a power of two -/
theorem div_unit {a b c d x y p u s : Nat} {m n g h : Int} (ha : IsV a (m * ((2 ^ p : Nat) : Int))) (hb : IsV b (n * ((2 ^ p : Nat) : Int))) (hc : IsV c (g * ((2 ^ u : Nat) : Int))) (hd : IsV d (h * ((2 ^ u : Nat) : Int)))
    (hm : m.natAbs ≤ 2 ^ 24) (hn : n.natAbs ≤ 2 ^ 24) (hu : Un g h) (hs : 2 ^ p * UN = 2 ^ s * 2 ^ u) (hp1 : 53 ≤ p) (hp2 : p ≤ 2000) (hu1 : 53 ≤ u) (hu2 : u ≤ 2000) (h1 : 53 ≤ s) (h2 : s ≤ 2000) (H : DivR a b c d x y) :
    IsV x ((m * g + n * h) * ((2 ^ s : Nat) : Int)) ∧ IsV y ((n * g - m * h) * ((2 ^ s : Nat) : Int)) := by
  have hU := Nat.two_pow_pos u
  have hg := geB_mv hc hd
  have hsI : ((2 ^ p : Nat) : Int) * (UN : Int) = ((2 ^ s : Nat) : Int) * ((2 ^ u : Nat) : Int) := by rw [← Int.natCast_mul, ← Int.natCast_mul, hs]
  have rp : ∀ k : Int, k.natAbs ≤ 2 ^ 24 → Rep (k * ((2 ^ p : Nat) : Int)) := fun k hk => Rep.of (by omega) hp1 hp2
  have ru : ∀ k : Int, k.natAbs ≤ 2 ^ 24 → Rep (k * ((2 ^ u : Nat) : Int)) := fun k hk => Rep.of (by omega) hu1 hu2
  have rs : ∀ k : Int, k.natAbs ≤ 2 ^ 24 → Rep (k * ((2 ^ s : Nat) : Int)) := fun k hk => Rep.of (by omega) h1 h2
  have key : ∀ k j : Int, j * j = 1 → k * ((2 ^ p : Nat) : Int) * (UN : Int) = (k * j * ((2 ^ s : Nat) : Int)) * (j * ((2 ^ u : Nat) : Int)) := fun k j hj => by
    rw [Int.mul_assoc, hsI]
    generalize ((2 ^ s : Nat) : Int) = S
    generalize ((2 ^ u : Nat) : Int) = U
    rw [show k * j * S * (j * U) = (j * j) * (k * (S * U)) by ac_rfl, hj, Int.one_mul]
  have nz : ∀ j : Int, j * j = 1 → j * ((2 ^ u : Nat) : Int) ≠ 0 := fun j hj => Int.mul_ne_zero (by rintro rfl; simp at hj) (by omega)
  have nk : ∀ k j : Int, k.natAbs ≤ 2 ^ 24 → j * j = 1 → (k * j).natAbs ≤ 2 ^ 24 := fun k j hk hj => by
    have hj1 : j.natAbs * j.natAbs = 1 := by rw [← Int.natAbs_mul, hj]; rfl
    have : j.natAbs = 1 := Nat.eq_one_of_mul_eq_one_right hj1
    rw [Int.natAbs_mul, this, Nat.mul_one]; exact hk
  rcases H with ⟨e0, r, mm, t, m1, n1, m2, n2, E1, E2, E3, E4, E5, E6, E7, E8, E9⟩ | ⟨e0, r, mm, t, m1, n1, m2, n2, E1, E2, E3, E4, E5, E6, E7, E8, E9⟩
  · -- the greater part is c
    have hgh : h = 0 ∧ g * g = 1 := by
      rw [hg] at e0
      have e0 := of_decide_eq_true e0
      rw [Int.natAbs_mul, Int.natAbs_mul, Int.natAbs_natCast] at e0
      unfold Un at hu
      rcases hu with ⟨rfl, rfl⟩ | ⟨rfl, rfl⟩ | ⟨rfl, rfl⟩ | ⟨rfl, rfl⟩
      · exact ⟨rfl, rfl⟩
      · simp at e0
      · exact ⟨rfl, rfl⟩
      · simp at e0
    obtain ⟨rfl, hgg⟩ := hgh
    rw [Int.zero_mul] at hd
    have R := hd.div hc E1 (nz g hgg) (by rw [Int.zero_mul, Int.zero_mul]) Rep.zero
    have M := hd.mul R E2 (by rw [Int.zero_mul, Int.zero_mul]) Rep.zero
    have g24 : g.natAbs ≤ 2 ^ 24 := by have := nk 1 g (by decide) hgg; rwa [Int.one_mul] at this
    have T := hc.add M E3 (by rw [Int.add_zero]; exact ru g g24)
    rw [Int.add_zero] at T
    have M1 := hb.mul R E4 (by rw [Int.mul_zero, Int.zero_mul]) Rep.zero
    have N1 := ha.add M1 E5 (by rw [Int.add_zero]; exact rp m hm)
    rw [Int.add_zero] at N1
    have X := N1.div T E6 (nz g hgg) (key m g hgg) (rs _ (nk m g hm hgg))
    have M2 := ha.mul R E7 (by rw [Int.mul_zero, Int.zero_mul]) Rep.zero
    have N2 := hb.sub M2 E8 (by rw [Int.sub_zero]; exact rp n hn)
    rw [Int.sub_zero] at N2
    have Y := N2.div T E9 (nz g hgg) (key n g hgg) (rs _ (nk n g hn hgg))
    rw [Int.mul_zero, Int.add_zero, Int.mul_zero, Int.sub_zero]
    exact ⟨X, Y⟩
  · have hgh : g = 0 ∧ h * h = 1 := by
      rw [hg] at e0
      have e0 := of_decide_eq_false e0
      rw [Int.natAbs_mul, Int.natAbs_mul, Int.natAbs_natCast] at e0
      unfold Un at hu
      rcases hu with ⟨rfl, rfl⟩ | ⟨rfl, rfl⟩ | ⟨rfl, rfl⟩ | ⟨rfl, rfl⟩
      · simp at e0
      · exact ⟨rfl, rfl⟩
      · simp at e0
      · exact ⟨rfl, rfl⟩
    obtain ⟨rfl, hgg⟩ := hgh
    rw [Int.zero_mul] at hc
    have R := hc.div hd E1 (nz h hgg) (by rw [Int.zero_mul, Int.zero_mul]) Rep.zero
    have M := hc.mul R E2 (by rw [Int.zero_mul, Int.zero_mul]) Rep.zero
    have g24 : h.natAbs ≤ 2 ^ 24 := by have := nk 1 h (by decide) hgg; rwa [Int.one_mul] at this
    have T := M.add hd E3 (by rw [Int.zero_add]; exact ru h g24)
    rw [Int.zero_add] at T
    have M1 := ha.mul R E4 (by rw [Int.mul_zero, Int.zero_mul]) Rep.zero
    have N1 := M1.add hb E5 (by rw [Int.zero_add]; exact rp n hn)
    rw [Int.zero_add] at N1
    have X := N1.div T E6 (nz h hgg) (key n h hgg) (rs _ (nk n h hn hgg))
    have M2 := hb.mul R E7 (by rw [Int.mul_zero, Int.zero_mul]) Rep.zero
    have N2 := M2.sub ha E8 (by rw [Int.zero_sub, ← Int.neg_mul]; exact rp (-m) (by rw [Int.natAbs_neg]; exact hm))
    rw [Int.zero_sub, ← Int.neg_mul] at N2
    have Y := N2.div T E9 (nz h hgg) (key (-m) h hgg) (rs _ (nk (-m) h (by rw [Int.natAbs_neg]; exact hm) hgg))
    rw [Int.mul_zero, Int.zero_add, Int.mul_zero, Int.zero_sub, ← Int.neg_mul]
    exact ⟨X, Y⟩
/-- multiplied and divided by a unit times a power of two it is itself -/
theorem unit_back {a b c d x y x' y' u : Nat} {m n g h : Int} (ha : IsI a m) (hb : IsI b n) (hc : IsV c (g * ((2 ^ u : Nat) : Int))) (hd : IsV d (h * ((2 ^ u : Nat) : Int))) (hm : m.natAbs ≤ 2 ^ 23) (hn : n.natAbs ≤ 2 ^ 23) (hu : Un g h) (hu1 : 900 ≤ u) (hu2 : u ≤ 1200)
    (H : MulR a b c d x y) (G : DivR x y c d x' y') : fin x ∧ fin y ∧ fin x' ∧ fin y' ∧ iv x' = iv a ∧ iv y' = iv b := by
  obtain ⟨e, he⟩ : ∃ e, e = 1074 := ⟨_, rfl⟩
  have hUN : 2 ^ e = UN := UN_eq e he
  have ha' : IsV a (m * ((2 ^ e : Nat) : Int)) := ⟨ha.1, ha.2.2, by rw [hUN]; exact ha.2.1⟩
  have hb' : IsV b (n * ((2 ^ e : Nat) : Int)) := ⟨hb.1, hb.2.2, by rw [hUN]; exact hb.2.1⟩
  have k1 := mul_unit (s := u) ha' hb' hc hd (by omega) (by omega) hu (by rw [hUN, Nat.mul_comm]) (by omega) (by omega) H
  have bb : (m * g - n * h).natAbs ≤ 2 ^ 24 ∧ (m * h + n * g).natAbs ≤ 2 ^ 24 := by
    unfold Un at hu
    rcases hu with ⟨rfl, rfl⟩ | ⟨rfl, rfl⟩ | ⟨rfl, rfl⟩ | ⟨rfl, rfl⟩ <;> simp <;> omega
  have k2 := div_unit (s := e) k1.1 k1.2 hc hd bb.1 bb.2 hu (by rw [hUN, Nat.mul_comm]) (by omega) (by omega) (by omega) (by omega) (by omega) (by omega) G
  refine ⟨k1.1.1, k1.2.1, k2.1.1, k2.2.1, ?_, ?_⟩
  · rw [k2.1.2.2, ha'.2.2]
    congr 1
    unfold Un at hu
    rcases hu with ⟨rfl, rfl⟩ | ⟨rfl, rfl⟩ | ⟨rfl, rfl⟩ | ⟨rfl, rfl⟩ <;> simp
  · rw [k2.2.2.2, hb'.2.2]
    congr 1
    unfold Un at hu
    rcases hu with ⟨rfl, rfl⟩ | ⟨rfl, rfl⟩ | ⟨rfl, rfl⟩ | ⟨rfl, rfl⟩ <;> simp
theorem unit_forth {a b c d x y x' y' u : Nat} {m n g h : Int} (ha : IsI a m) (hb : IsI b n) (hc : IsV c (g * ((2 ^ u : Nat) : Int))) (hd : IsV d (h * ((2 ^ u : Nat) : Int))) (hm : m.natAbs ≤ 2 ^ 23) (hn : n.natAbs ≤ 2 ^ 23) (hu : Un g h) (hu1 : 900 ≤ u) (hu2 : u ≤ 1200)
    (H : DivR a b c d x y) (G : MulR x y c d x' y') : fin x ∧ fin y ∧ fin x' ∧ fin y' ∧ iv x' = iv a ∧ iv y' = iv b := by
  obtain ⟨e, he⟩ : ∃ e, e = 1074 := ⟨_, rfl⟩
  have hUN : 2 ^ e = UN := UN_eq e he
  have ha' : IsV a (m * ((2 ^ e : Nat) : Int)) := ⟨ha.1, ha.2.2, by rw [hUN]; exact ha.2.1⟩
  have hb' : IsV b (n * ((2 ^ e : Nat) : Int)) := ⟨hb.1, hb.2.2, by rw [hUN]; exact hb.2.1⟩
  obtain ⟨s, hs⟩ : ∃ s, s + u = e + e := ⟨e + e - u, by omega⟩
  have k1 := div_unit (s := s) ha' hb' hc hd (by omega) (by omega) hu (by rw [← hUN, ← Nat.pow_add, ← Nat.pow_add, hs]) (by omega) (by omega) (by omega) (by omega) (by omega) (by omega) H
  have bb : (m * g + n * h).natAbs ≤ 2 ^ 24 ∧ (n * g - m * h).natAbs ≤ 2 ^ 24 := by
    unfold Un at hu
    rcases hu with ⟨rfl, rfl⟩ | ⟨rfl, rfl⟩ | ⟨rfl, rfl⟩ | ⟨rfl, rfl⟩ <;> simp <;> omega
  have k2 := mul_unit (s := e) k1.1 k1.2 hc hd bb.1 bb.2 hu (by rw [← hUN, ← Nat.pow_add, ← Nat.pow_add, hs]) (by omega) (by omega) G
  refine ⟨k1.1.1, k1.2.1, k2.1.1, k2.2.1, ?_, ?_⟩
  · rw [k2.1.2.2, ha'.2.2]
    congr 1
    unfold Un at hu
    rcases hu with ⟨rfl, rfl⟩ | ⟨rfl, rfl⟩ | ⟨rfl, rfl⟩ | ⟨rfl, rfl⟩ <;> simp
  · rw [k2.2.2.2, hb'.2.2]
    congr 1
    unfold Un at hu
    rcases hu with ⟨rfl, rfl⟩ | ⟨rfl, rfl⟩ | ⟨rfl, rfl⟩ | ⟨rfl, rfl⟩ <;> simp
end Fl
