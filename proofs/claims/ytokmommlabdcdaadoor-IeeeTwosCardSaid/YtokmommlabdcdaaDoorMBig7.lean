/- Contracts of surdbig.down, right, lowest, ends, bits. Contracts of surdbig.right, bits. Contracts of surdbig.bits, and of the method that counts the bits of a number. Contract of surdbig.ends. -/
import Derived.Test.YtokmommlabdcdaaDoorMBig6
import Derived.RegionTactic
import Derived.ChangeAlike
import Derived.BigRegion
import Derived.Test.YtokmommlabdcdaaDoorMFlRel
set_option linter.unusedVariables false
set_option linter.unusedSimpArgs false
set_option linter.unusedVariables false
set_option linter.unusedSimpArgs false
namespace Go.Proofs.YtokmommlabdcdaaDoor
open Wd Fl Go.RowKit
/-- what holds of the numbers at the head of down's round -/
def DownV (l Q : List Nat) (m s k : Nat) : Prop := Q.length = m ∧ Ok Q ∧ ∀ j, j < k → Q.getD j 0 = val l / 2 ^ s / 4294967296 ^ j % 4294967296
theorem DownV.step {l Q : List Nat} {m s k y : Nat} (h : DownV l Q m s k) (hk : k < m) (hy : y = val l / 2 ^ s / 4294967296 ^ k % 4294967296) : DownV l (Q.set k y) m s (k + 1) := by
  obtain ⟨h1, h2, h3⟩ := h
  refine ⟨by rw [List.length_set]; exact h1, h2.set (by rw [hy]; exact Nat.mod_lt _ (by decide)), fun j hj => ?_⟩
  rw [getD_set _ _ _ _ (by omega)]
  by_cases e : j = k
  · rw [if_pos e, hy, e]
  · rw [if_neg e]; exact h3 j (by omega)
theorem DownV.done {l Q : List Nat} {m s : Nat} (h : DownV l Q m s m) (ok : Ok l) (hl : l.length = m) : val Q = val l / 2 ^ s := by
  obtain ⟨h1, h2, h3⟩ := h
  refine val_digits Q _ (fun i hi => h3 i (by omega)) ?_
  rw [h1, ← hl]
  exact Nat.lt_of_le_of_lt (Nat.div_le_self _ _) (val_lt ok)
end Go.Proofs.YtokmommlabdcdaaDoor
set_option linter.unusedVariables false
set_option linter.unusedSimpArgs false
namespace Go.Proofs.YtokmommlabdcdaaDoor
open Wd Fl Go.RowKit
end Go.Proofs.YtokmommlabdcdaaDoor
set_option linter.unusedVariables false
set_option linter.unusedSimpArgs false
namespace Go.Proofs.YtokmommlabdcdaaDoor
open Wd Fl Go.RowKit
/-- what holds at the head of the round that counts -/
def BitV (x j : Nat) (Y : Int) : Prop := Y = ((x / 2 ^ j : Nat) : Int) ∧ (j = 0 ∨ 2 ^ (j - 1) ≤ x) ∧ j ≤ 32
theorem BitV.start (x : Nat) : BitV x 0 x := ⟨by rw [Nat.pow_zero, Nat.div_one], .inl rfl, by omega⟩
theorem BitV.pos {x j : Nat} {Y : Int} (h : BitV x j Y) : 0 ≤ Y := by rw [h.1]; exact Int.natCast_nonneg _
theorem BitV.step {x j : Nat} {Y : Int} (h : BitV x j Y) (hx : x < 4294967296) (hY : 0 < Y) : BitV x (j + 1) (Y / 2) ∧ j < 32 := by
  obtain ⟨rfl, h2, h3⟩ := h
  have hne : x / 2 ^ j ≠ 0 := by
    intro e
    rw [e] at hY
    exact absurd hY (by decide)
  have hs := blen_step hne
  have hj : j < 32 := by
    rw [Nat.add_sub_cancel] at hs
    exact (Nat.pow_lt_pow_iff_right (by decide : 1 < 2)).1 (Nat.lt_of_le_of_lt hs hx)
  refine ⟨⟨?_, .inr hs, by omega⟩, hj⟩
  rw [← half_again, Int.natCast_ediv]; rfl
theorem BitV.done {x j : Nat} {Y : Int} (h : BitV x j Y) (hY : ¬ 0 < Y) : blen x = j := by
  obtain ⟨rfl, h2, h3⟩ := h
  refine blen_end h2 ?_
  generalize x / 2 ^ j = y at *
  omega
theorem BitV.lt {x j : Nat} {Y : Int} (h : BitV x j Y) (hx : x < 4294967296) : Y < 4294967296 := by
  obtain ⟨rfl, _, _⟩ := h
  have := Nat.div_le_self x (2 ^ j)
  generalize x / 2 ^ j = y at *
  omega
end Go.Proofs.YtokmommlabdcdaaDoor
set_option linter.unusedVariables false
set_option linter.unusedSimpArgs false
namespace Go.Proofs.YtokmommlabdcdaaDoor
open Wd Fl Go.RowKit
def EndsRet (n : Nat) (w : World) (e : Ending) (w' : World) : Prop := ∃ t : Nat, e = .returned (.int .u64 t) ∧ TzR n t ∧ w = w'
theorem EndsRet.mk {n : Nat} {w : World} {t : Nat} (h : TzR n t) : EndsRet n w (.returned (.int .u64 t)) w := ⟨t, rfl, h, rfl⟩
end Go.Proofs.YtokmommlabdcdaaDoor
