/- Contracts of surdbig.up, down. -/
import Derived.Test.YtokmommlabdcdaaDoorMBig5
import Derived.Test.YtokmommlabdcdaaDoorMFlRel
import Derived.Laws.MakeOwn
set_option linter.unusedVariables false
set_option linter.unusedSimpArgs false
set_option linter.unusedVariables false
set_option linter.unusedSimpArgs false
namespace Go.Proofs.YtokmommlabdcdaaDoor
open Wd Fl Go.RowKit
theorem own_made (w : World) (n cap : Nat) (h : n ≤ cap) (hm : cap ≤ maxLen) {G : Nat} (hG : G ≤ w.heap.size) :
    (w.alloc (.cells (madeCells #[.int .u32 0] cap) TW)).ownsRow G TW 1 (.slice (some ⟨w.heap.size, 0, none⟩) n cap) n ((List.replicate n 0).map wv) := by
  refine ⟨by simp, .inr ⟨w.heap.size, cap, _, rfl, hG, heap_alloc_new w _, h, hm, by rw [size_madeCells]; omega, ?_⟩⟩
  rw [made_words, Nat.mul_one, ← List.map_take, List.take_replicate, Nat.min_eq_left h]
/-- what holds of the numbers at the head of up's round -/
def UpV (l O : List Nat) (q s k c : Nat) : Prop := c < 2 ^ s ∧ O.length = q + k ∧ Ok O ∧ val O + 4294967296 ^ (q + k) * c = 2 ^ (32 * q + s) * val (l.take k)
theorem UpV.step {l O : List Nat} {q s k c : Nat} (h : UpV l O q s k c) (hs : s < 32) (hx : l.getD k 0 < 4294967296) :
    UpV l (O ++ [(l.getD k 0 * 2 ^ s + c) % 4294967296]) q s (k + 1) (l.getD k 0 / 2 ^ (32 - s)) := by
  obtain ⟨hc, hl, ho, hv⟩ := h
  refine ⟨up_carry_lt hx (by omega), by rw [List.length_append, hl]; rfl, ho.snoc (Nat.mod_lt _ (by decide)), ?_⟩
  have hv' : val O + 4294967296 ^ (q + k) * c = 2 ^ s * (2 ^ (32 * q) * val (l.take k)) := by rw [hv, Nat.pow_add]; ac_rfl
  have st := up_step (x := l.getD k 0) hv'
  rw [up_carry hc (by omega)] at st
  rw [val_snoc, hl, ← Nat.add_assoc q k 1, pw_succ, st, val_take_succ', Nat.mul_add, Nat.pow_add, Nat.pow_add, pw]
  congr 1
  · ac_rfl
  · rw [pw]; ac_rfl
end Go.Proofs.YtokmommlabdcdaaDoor
