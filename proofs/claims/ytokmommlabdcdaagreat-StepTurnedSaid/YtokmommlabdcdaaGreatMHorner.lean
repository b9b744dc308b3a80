/- Contracts of package horner's steps: a step of the value, of slope and value. -/
import Derived.Test.YtokmommlabdcdaaGreatMBig39
import Derived.Test.YtokmommlabdcdaaGreatMFlRel
import Derived.Deep.Cut
set_option linter.unusedVariables false
set_option linter.unusedSimpArgs false
set_option linter.unusedVariables false
set_option linter.unusedSimpArgs false
namespace Go.Proofs.YtokmommlabdcdaaGreat
open Wd Fl Go.RowKit
@[go_sem] theorem run_store_complexH {P : Program} (w : World) (ad : Addr) (m : Mode) (k : FloatKind) (a b : Nat) : (store ad (.complex k a b) m).run P w = stored P w ad (.complex k a b) m := run_store P w ad _ m rfl
/-- a value and a slope on their way, in block g -/
def HAt (w : World) (g : Nat) (z v s : Cpx) : Prop := ∃ size e : Nat, w.heap[g]? = some (.cells #[cv z, cv v, cv s, .float .f64 size, .float .f64 e] 102 (0, 0))
/-- a product and a sum -/
def StepR (v z c x : Cpx) : Prop := ∃ p q, MulR v.1 v.2 z.1 z.2 p q ∧ AddR p q c.1 c.2 x.1 x.2
theorem HAt.lt {w : World} {g : Nat} {z v s : Cpx} (h : HAt w g z v s) : g < w.heap.size := by
  obtain ⟨_, _, h⟩ := h; exact (Array.getElem?_eq_some_iff.1 h).1
theorem HAt.keep {w w' : World} {g : Nat} {z v s : Cpx} (h : HAt w g z v s) (e : w'.heap[g]? = w.heap[g]?) : HAt w' g z v s := by
  obtain ⟨a, b, h⟩ := h; exact ⟨a, b, e.trans h⟩
theorem HAt.cells {w : World} {g : Nat} {z v s : Cpx} (h : HAt w g z v s) : w.cell? ⟨g, 0, none⟩ = some (.complex .f64 z.1 z.2) ∧ w.cell? ⟨g, 1, none⟩ = some (.complex .f64 v.1 v.2) ∧ w.cell? ⟨g, 2, none⟩ = some (.complex .f64 s.1 s.2) ∧ w.frozen? ⟨g, 1, none⟩ = false ∧ w.frozen? ⟨g, 2, none⟩ = false := by
  obtain ⟨a, b, h⟩ := h
  refine ⟨?_, ?_, ?_, frozen_of_row w g 1 _ _ h, frozen_of_row w g 2 _ _ h⟩ <;> (rw [cell_of_row _ _ _ _ _ _ h]; rfl)
theorem HAt.setV {w : World} {g : Nat} {z v s : Cpx} (h : HAt w g z v s) (x y : Nat) : HAt (w.setCell ⟨g, 1, none⟩ (.complex .f64 x y)) g z (x, y) s := by
  obtain ⟨a, b, h⟩ := h
  exact ⟨a, b, heap_setCell_same w g 1 _ _ (.complex .f64 x y) h⟩
theorem HAt.setS {w : World} {g : Nat} {z v s : Cpx} (h : HAt w g z v s) (x y : Nat) : HAt (w.setCell ⟨g, 2, none⟩ (.complex .f64 x y)) g z v (x, y) := by
  obtain ⟨a, b, h⟩ := h
  exact ⟨a, b, heap_setCell_same w g 2 _ _ (.complex .f64 x y) h⟩
theorem wr_drewN (g lo hi n : Nat) (w : World) : Wr g lo hi w (w.drewN n) := Wr.of_below _ _ _ (below_drewN (Below.refl _ w) n)
/-- what a step of the value leaves -/
def ValRet (g : Nat) (z v s c : Cpx) (w : World) (e : Ending) (w' : World) : Prop := (∃ u, e = .returned u) ∧ ∃ x : Cpx, StepR v z c x ∧ HAt w' g z x s ∧ Wr g 0 5 w w'
set_option maxRecDepth 100000 in
set_option maxHeartbeats 4000000 in
theorem hvalue_any (g : Nat) (z v s c : Cpx) (w : World) (h : HAt w g z v s) :
    Calls Tryz.prog 93 #[.pointer (some ⟨g, 0, none⟩), .complex .f64 c.1 c.2] w (ValRet g z v s c w) := by
  obtain ⟨c0, c1, c2, f1, f2⟩ := h.cells
  have H := Lib.hid h
  obtain ⟨z1, z2⟩ := z
  obtain ⟨v1, v2⟩ := v
  obtain ⟨a1, a2⟩ := c
  clear h c2 f2
  simp only at c0 c1
  go_enter Tryz.func93, Tryz.ntmps93
  go_wp2_with fail
  go_region_law (first | (go_simp; go_at_call 19; (with_reducible refine (mul_any v1 v2 z1 z2 _).mono ?_); rintro e w1 ⟨p, q, n1, r1, rfl, rfl⟩; have R1 := Lib.hid r1; clear r1) | (go_simp; go_at_call 15; (with_reducible refine (add_any p q a1 a2 _).mono ?_); rintro e w2 ⟨x, y, n2, r2, rfl, rfl⟩; have R2 := Lib.hid r2; clear r2))
  all_goals
    go_wp2_with fail
    go_end0
    exact ⟨⟨_, rfl⟩, (x, y), ⟨p, q, R1.out, R2.out⟩, HAt.setV (w := w.drewN _) H.out x y, (wr_drewN g 0 5 _ w).trans (Wr.set _ (by omega) (by omega))⟩
/-- what a step of slope and value leaves -/
def BothRet (g : Nat) (z v s c : Cpx) (w : World) (e : Ending) (w' : World) : Prop := (∃ u, e = .returned u) ∧ ∃ x t : Cpx, StepR v z c x ∧ StepR s z v t ∧ HAt w' g z x t ∧ Wr g 0 5 w w'
set_option maxRecDepth 100000 in
set_option maxHeartbeats 4000000 in
theorem hboth_any (g : Nat) (z v s c : Cpx) (w : World) (h : HAt w g z v s) :
    Calls Tryz.prog 91 #[.pointer (some ⟨g, 0, none⟩), .complex .f64 c.1 c.2] w (BothRet g z v s c w) := by
  obtain ⟨c0, c1, c2, f1, f2⟩ := h.cells
  have H := Lib.hid h
  obtain ⟨z1, z2⟩ := z
  obtain ⟨v1, v2⟩ := v
  obtain ⟨s1, s2⟩ := s
  obtain ⟨a1, a2⟩ := c
  clear h f1
  simp only at c0 c1 c2
  go_enter Tryz.func91, Tryz.ntmps91
  go_wp2_with fail
  go_region_law (first | (go_simp; go_at_call 19; (with_reducible refine (mul_any s1 s2 z1 z2 _).mono ?_); rintro e w1 ⟨p, q, n1, r1, rfl, rfl⟩; have R1 := Lib.hid r1; clear r1) | (go_simp; go_at_call 15; (with_reducible refine (add_any p q v1 v2 _).mono ?_); rintro e w2 ⟨x, y, n2, r2, rfl, rfl⟩; have R2 := Lib.hid r2; clear r2))
  all_goals
    go_wp2_with fail
    refine (hvalue_any g (z1, z2) (v1, v2) (x, y) (a1, a2) _ (HAt.setS (w := w.drewN _) H.out x y)).mono ?_
    intro e w5 h5
    rcases h5 with ⟨⟨u, rfl⟩, xv, hs, ha, hw⟩
    have A := Lib.hid ha
    have S := Lib.hid hs
    have W5 := Lib.hid (((wr_drewN g 0 5 _ w).trans (Wr.set _ (by omega) (by omega))).trans hw)
    clear ha hs hw
    go_wp2_with fail
    go_end0
    exact ⟨⟨_, rfl⟩, xv, (x, y), S.out, ⟨p, q, R1.out, R2.out⟩, A.out, W5.out⟩
end Go.Proofs.YtokmommlabdcdaaGreat
