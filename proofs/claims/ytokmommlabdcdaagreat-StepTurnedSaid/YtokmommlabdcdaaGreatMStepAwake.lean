/- surdlaw18.awake answers true; nothing that was there is written. -/
import Derived.Test.YtokmommlabdcdaaGreatMHorner2
import Derived.Test.YtokmommlabdcdaaGreatMSum
set_option linter.unusedVariables false
set_option linter.unusedSimpArgs false
set_option linter.unusedVariables false
set_option linter.unusedSimpArgs false
namespace Go.Proofs.YtokmommlabdcdaaGreat
open Fl Go.RowKit
namespace StepAwake
abbrev one : Cpx := (4607182418800017408, 0)
abbrev nul : Cpx := (0, 0)
abbrev A1 : List Cpx := [(13835058055282163712, 0), (0, 0), (4607182418800017408, 0)]
abbrev A2 : List Cpx := [(4611686018427387904, 0), (13837309855095848960, 0), (4607182418800017408, 0)]
abbrev A3 : List Cpx := [(4616189618054758400, 0), (13839561654909534208, 0), (4607182418800017408, 0)]
abbrev A4 : List Cpx := [(13841813454723219456, 0), (4611686018427387904, 0)]
abbrev Z2 : List Cpx := [(0, 0), (4616189618054758400, 0)]
abbrev Z4 : List Cpx := [(4607182418800017408, 0)]
theorem e1 : eNewton A1 one = some (4609434218613702656, 0) := by decide +kernel
theorem e2 : eWeier A2 Z2 0 = some (4602678819172646912, 0) := by decide +kernel
theorem e3 : eAberth A3 Z2 0 = some (4608683618675807573, 0) := by decide +kernel
theorem e4 : eWeier A4 Z4 0 = some (4613937818241073152, 0) := by decide +kernel
theorem ok1 : CsOk A1 := fun i hi => by match i, hi with | 0, _ => decide | 1, _ => decide | 2, _ => decide
theorem ok2 : CsOk A2 := fun i hi => by match i, hi with | 0, _ => decide | 1, _ => decide | 2, _ => decide
theorem ok3 : CsOk A3 := fun i hi => by match i, hi with | 0, _ => decide | 1, _ => decide | 2, _ => decide
theorem ok4 : CsOk A4 := fun i hi => by match i, hi with | 0, _ => decide | 1, _ => decide
theorem okz2 : CsOk Z2 := fun i hi => by match i, hi with | 0, _ => decide | 1, _ => decide
theorem okz4 : CsOk Z4 := fun i hi => by match i, hi with | 0, _ => decide
theorem slLit (w : World) (cs : List Cpx) (T : TypeId) : Sl (w.alloc (.cells (cs.map cv).toArray T)) (.slice (some ⟨w.heap.size, 0, none⟩) cs.length cs.length) cs := by
  refine .inr ⟨_, 0, _, rfl, Nat.le_refl _, fun i hi => ?_⟩
  rw [cell_of_row _ _ _ _ _ _ (heap_alloc_new w (.cells (cs.map cv).toArray T))]
  simp [nth, List.getD_eq_getElem?_getD, hi]
theorem slLit2 (w : World) (cs : List Cpx) (o : Obj) (T : TypeId) : Sl ((w.alloc o).alloc (.cells (cs.map cv).toArray T)) (.slice (some ⟨w.heap.size + 1, 0, none⟩) cs.length cs.length) cs := by
  have := slLit (w.alloc o) cs T
  rw [World.size_alloc] at this
  exact this
theorem slLit1 (w : World) (cs : List Cpx) (T : TypeId) (o : Obj) : Sl ((w.alloc (.cells (cs.map cv).toArray T)).alloc o) (.slice (some ⟨w.heap.size, 0, none⟩) cs.length cs.length) cs := (slLit w cs T).alloc o
theorem bel2 (w : World) (o o' : Obj) : Below w.heap.size w ((w.alloc o).alloc o') := bal (bal (Below.refl _ _))
theorem newton_c (w : World) (T : TypeId) : Calls Tryz.prog 33 #[.slice (some ⟨w.heap.size, 0, none⟩) 3 3, .complex .f64 4607182418800017408 0] (w.alloc (.cells #[.complex .f64 13835058055282163712 0, .complex .f64 0 0, .complex .f64 4607182418800017408 0] T)) fun e w' => e = .returned (.tuple #[.complex .f64 4609434218613702656 0, .int .i64 0]) ∧ Below w.heap.size w w' := by
  refine (newton_any A1 one _ _ (slLit w A1 T) ok1 (by decide)).mono ?_
  rintro e w' ⟨x, rfl, h0, _, hb⟩
  have hx := newtonE (h0 rfl) e1
  subst hx
  exact ⟨rfl, (bal (Below.refl _ _)).trans (hb.mono (by rw [World.size_alloc]; omega))⟩
theorem weier_c (w : World) (T T' : TypeId) : Calls Tryz.prog 34 #[.slice (some ⟨w.heap.size, 0, none⟩) 3 3, .slice (some ⟨w.heap.size + 1, 0, none⟩) 2 2, .int .i64 0] ((w.alloc (.cells #[.complex .f64 4611686018427387904 0, .complex .f64 13837309855095848960 0, .complex .f64 4607182418800017408 0] T)).alloc (.cells #[.complex .f64 0 0, .complex .f64 4616189618054758400 0] T')) fun e w' => e = .returned (.tuple #[.complex .f64 4602678819172646912 0, .int .i64 0]) ∧ Below w.heap.size w w' := by
  refine (weier_any A2 Z2 0 _ _ _ (slLit1 w A2 T _) (slLit2 w Z2 _ T') ok2 okz2).mono ?_
  rintro e w' ⟨x, rfl, h0, _, hb⟩
  have hx := weierE (i := 0) (h0 (by decide)) e2
  subst hx
  exact ⟨rfl, (bel2 _ _ _).trans (hb.mono (by rw [World.size_alloc, World.size_alloc]; omega))⟩
theorem aberth_c (w : World) (T T' : TypeId) : Calls Tryz.prog 35 #[.slice (some ⟨w.heap.size, 0, none⟩) 3 3, .slice (some ⟨w.heap.size + 1, 0, none⟩) 2 2, .int .i64 0] ((w.alloc (.cells #[.complex .f64 4616189618054758400 0, .complex .f64 13839561654909534208 0, .complex .f64 4607182418800017408 0] T)).alloc (.cells #[.complex .f64 0 0, .complex .f64 4616189618054758400 0] T')) fun e w' => e = .returned (.tuple #[.complex .f64 4608683618675807573 0, .int .i64 0]) ∧ Below w.heap.size w w' := by
  refine (aberth_any A3 Z2 0 _ _ _ (slLit1 w A3 T _) (slLit2 w Z2 _ T') ok3 okz2).mono ?_
  rintro e w' ⟨x, rfl, h0, _, hb⟩
  have hx := aberthE (i := 0) (h0 (by decide)) e3
  subst hx
  exact ⟨rfl, (bel2 _ _ _).trans (hb.mono (by rw [World.size_alloc, World.size_alloc]; omega))⟩
theorem raberth_c (w : World) (T T' : TypeId) : Calls Tryz.prog 38 #[.slice (some ⟨w.heap.size, 0, none⟩) 3 3, .slice (some ⟨w.heap.size + 1, 0, none⟩) 2 2, .int .i64 0] ((w.alloc (.cells #[.complex .f64 4616189618054758400 0, .complex .f64 13839561654909534208 0, .complex .f64 4607182418800017408 0] T)).alloc (.cells #[.complex .f64 0 0, .complex .f64 4616189618054758400 0] T')) fun e w' => e = .returned (.tuple #[.complex .f64 4608683618675807573 0, .int .i64 0]) ∧ Below w.heap.size w w' := by
  refine (raberth_any A3 Z2 0 _ _ _ (slLit1 w A3 T _) (slLit2 w Z2 _ T') ok3 okz2).mono ?_
  rintro e w' ⟨x, rfl, h0, _, hb⟩
  have hx := aberthE (i := 0) (h0 (by decide)) e3
  subst hx
  exact ⟨rfl, (bel2 _ _ _).trans (hb.mono (by rw [World.size_alloc, World.size_alloc]; omega))⟩
theorem step_c (w : World) (T T' : TypeId) : Calls Tryz.prog 36 #[.int .i64 2, .slice (some ⟨w.heap.size, 0, none⟩) 2 2, .slice (some ⟨w.heap.size + 1, 0, none⟩) 1 1, .int .i64 0] ((w.alloc (.cells #[.complex .f64 13841813454723219456 0, .complex .f64 4611686018427387904 0] T)).alloc (.cells #[.complex .f64 4607182418800017408 0] T')) fun e w' => e = .returned (.tuple #[.complex .f64 4613937818241073152 0, .int .i64 0]) ∧ Below w.heap.size w w' := by
  refine (step_any 2 A4 Z4 0 _ _ _ (slLit1 w A4 T _) (slLit2 w Z4 _ T') ok4 okz4).mono ?_
  rintro e w' ⟨x, rfl, h0, _, hb⟩
  rcases h0 (by decide) with ⟨h, _⟩ | ⟨_, h⟩ | ⟨h, _⟩
  · exact absurd h (by decide)
  · have hx := weierE (i := 0) h e4
    subst hx
    exact ⟨rfl, (bel2 _ _ _).trans (hb.mono (by rw [World.size_alloc, World.size_alloc]; omega))⟩
  · exact absurd h (by decide)
theorem g1 : FloatKind.f64.format.order 4609434218613702656 4609434218613702656 = some Ordering.eq := by decide +kernel
theorem g2 : FloatKind.f64.format.order 4602678819172646912 4602678819172646912 = some Ordering.eq := by decide +kernel
theorem g3 : FloatKind.f64.format.order 4613937818241073152 4613937818241073152 = some Ordering.eq := by decide +kernel
theorem g4 : FloatKind.f64.format.order 4608683618675807573 0 = some Ordering.gt := by decide +kernel
theorem g5 : FloatKind.f64.format.order 0 0 = some Ordering.eq := by decide +kernel
theorem g6 : sameCB 4608683618675807573 0 4608683618675807573 0 = true := by decide +kernel
set_option maxHeartbeats 4000000 in
set_option maxRecDepth 100000 in
theorem awake_any (w : World) : Calls Tryz.prog 31 #[] w fun e w' => e = .returned (.bool true) ∧ Below w.heap.size w w' := by
  have h1 := g1
  have h2 := g2
  have h3 := g3
  have h4 := g4
  have h5 := g5
  have h6 := g6
  go_enter Tryz.func31, Tryz.ntmps31
  go_wp2_with fail
  refine (newton_c _ _).mono ?_
  intro e w1 hh
  rcases hh with ⟨rfl, hb⟩
  have B1 := Lib.hid hb
  clear hb
  go_wp2_with fail
  refine (weier_c _ _ _).mono ?_
  intro e w2 hh
  rcases hh with ⟨rfl, hb⟩
  have B2 := Lib.hid (B1.out.trans (hb.mono B1.out.size))
  clear hb
  go_wp2_with fail
  refine (aberth_c _ _ _).mono ?_
  intro e w3 hh
  rcases hh with ⟨rfl, hb⟩
  have B3 := Lib.hid (B2.out.trans (hb.mono B2.out.size))
  clear hb
  go_wp2_with fail
  refine (step_c _ _ _).mono ?_
  intro e w4 hh
  rcases hh with ⟨rfl, hb⟩
  have B4 := Lib.hid (B3.out.trans (hb.mono B3.out.size))
  clear hb
  go_wp2_with fail
  refine (num_any _ _).mono ?_
  rintro e w' ⟨rfl, rfl⟩
  go_wp2_with fail
  refine (num_any _ _).mono ?_
  rintro e w' ⟨rfl, rfl⟩
  go_wp2_with fail
  refine (num_any _ _).mono ?_
  rintro e w' ⟨rfl, rfl⟩
  go_wp2_with fail
  refine (num_any _ _).mono ?_
  rintro e w' ⟨rfl, rfl⟩
  go_wp2_with fail
  refine (raberth_c _ _ _).mono ?_
  intro e w5 hh
  rcases hh with ⟨rfl, hb⟩
  have B5 := Lib.hid (B4.out.trans (hb.mono B4.out.size))
  clear hb
  go_wp2_with fail
  refine (sameC_any _ _ _ _ _).mono ?_
  rintro e w' ⟨rfl, rfl⟩
  go_wp2_with fail
  go_ret
  exact ⟨rfl, B5.out⟩
end StepAwake
end Go.Proofs.YtokmommlabdcdaaGreat
