/- Contracts of package horner's one, down, Value and Both, of lists of two to 65. Contracts of horner.Value, horner.Both and of surdref16.Both, of lists of two to 65: one relation. Contracts of package step: fit, fold, Newton. Contracts of package step's fold, by a function that is handed. Contracts of package step's Weier, Aberth, Step. Contracts of package step's Step. Contracts of surdref18: bad, Newton. Contracts of surdref18: Weier. Contracts of surdref18: Aberth. Contract of surdref18.Step. What the corrections answer where nothing is NaN, by evaluation. Two answers of one correction are the same, NaNs for one. -/
import Derived.Test.YtokmommlabdcdaaGreatMHorner
import Derived.Test.YtokmommlabdcdaaGreatMNextZ
set_option linter.unusedVariables false
set_option linter.unusedSimpArgs false
set_option linter.unusedVariables false
set_option linter.unusedSimpArgs false
namespace Go.Proofs.YtokmommlabdcdaaGreat
open Wd Fl Go.RowKit
theorem hone_any (z1 z2 : Nat) (h1 : z1 < 2 ^ 64) (h2 : z2 < 2 ^ 64) (w : World) :
    Calls Tryz.prog 116 #[.complex .f64 z1 z2] w fun e w' => (∃ r : Nat, e = .returned (.float .f64 r)) ∧ ∃ n, w' = w.drewN n := by
  have H1 := Lib.hid h1
  have H2 := Lib.hid h2
  clear h1 h2
  go_enter Tryz.func116, Tryz.ntmps116
  go_wp2_with fail
  refine (abs_any z1 H1.out _).mono ?_
  rintro e w' ⟨rfl, rfl⟩
  go_wp2_with fail
  refine (abs_any z2 H2.out _).mono ?_
  rintro e w' ⟨rfl, rfl⟩
  go_wp2_with fail
  refine (next_any _ (fop_add _ _ w).lt _).mono ?_
  rintro e w' ⟨rfl, rfl⟩
  go_wp2_with fail
  go_ret
  exact ⟨⟨_, rfl⟩, _, rfl⟩
theorem makeFunc_run (fn : Fn) (first cap : Array Value) (w : World) : (Instr.makeFunc fn first cap).run Tryz.prog w = .ok (.func fn first cap) w := rfl
theorem both1_any (g : Nat) (w : World) :
    Calls Tryz.prog 90 #[.pointer (some ⟨g, 0, none⟩)] w fun e w' => e = .returned (.func (.func 91) #[.pointer (some ⟨g, 0, none⟩)] #[]) ∧ w = w' := by
  have hmf := makeFunc_run
  go_enter Tryz.func90, Tryz.ntmps90
  go_wp2
  go_ret
  exact ⟨rfl, rfl⟩
theorem value1_any (g : Nat) (w : World) :
    Calls Tryz.prog 92 #[.pointer (some ⟨g, 0, none⟩)] w fun e w' => e = .returned (.func (.func 93) #[.pointer (some ⟨g, 0, none⟩)] #[]) ∧ w = w' := by
  have hmf := makeFunc_run
  go_enter Tryz.func92, Tryz.ntmps92
  go_wp2
  go_ret
  exact ⟨rfl, rfl⟩
/-- n steps of slope and value, from above -/
def BothN (cs : List Cpx) (z : Cpx) : Nat → Cpx → Cpx → Prop
  | 0, v, s => v = nth cs (cs.length - 1) ∧ s = (0, 0)
  | n + 1, v, s => ∃ v0 s0, BothN cs z n v0 s0 ∧ StepR v0 z (nth cs (cs.length - 2 - n)) v ∧ StepR s0 z v0 s
/-- n steps of the value -/
def ValN (cs : List Cpx) (z : Cpx) : Nat → Cpx → Prop
  | 0, v => v = nth cs (cs.length - 1)
  | n + 1, v => ∃ v0, ValN cs z n v0 ∧ StepR v0 z (nth cs (cs.length - 2 - n)) v
theorem BothN.val {cs : List Cpx} {z : Cpx} : ∀ {n : Nat} {v s : Cpx}, BothN cs z n v s → ValN cs z n v
  | 0, _, _, h => h.1
  | _ + 1, _, _, ⟨v0, s0, h, g, _⟩ => ⟨v0, h.val, g⟩
theorem StepR.lt {v z c x : Cpx} (h : StepR v z c x) : x.1 < 2 ^ 64 ∧ x.2 < 2 ^ 64 := by
  obtain ⟨p, q, _, h⟩ := h
  exact ⟨h.1.lt, h.2.lt⟩
theorem hnew (w : World) (z : Cpx) (r : Nat) : HAt (w.alloc (.cells #[.complex .f64 z.1 z.2, .complex .f64 0 0, .complex .f64 0 0, .float .f64 r, .float .f64 0] 102)) w.heap.size z (0, 0) (0, 0) := ⟨r, 0, heap_alloc_new w _⟩
/-- the walk down's slots and world -/
def HDownB (cs : List Cpx) (z : Cpx) (g : Nat) (w : World) (si : Value) (wr : World) : Prop :=
  ∃ (t n : Nat) (v s : Cpx), t + n + 1 = cs.length ∧ si = .int .i64 ((t : Int) - 1) ∧ BothN cs z n v s ∧ HAt wr g z v s ∧ Below w.heap.size w wr
def HDownV (cs : List Cpx) (z : Cpx) (g : Nat) (w : World) (si : Value) (wr : World) : Prop :=
  ∃ (t n : Nat) (v s : Cpx), t + n + 1 = cs.length ∧ si = .int .i64 ((t : Int) - 1) ∧ ValN cs z n v ∧ HAt wr g z v s ∧ Below w.heap.size w wr
def DownRet (cs : List Cpx) (z : Cpx) (R : Cpx → Cpx → Prop) (w : World) (e : Ending) (w' : World) : Prop :=
  ∃ (g : Nat) (v s : Cpx), e = .returned (.tuple #[.pointer (some ⟨g, 0, none⟩), .int .i64 0]) ∧ R v s ∧ HAt w' g z v s ∧ w.heap.size ≤ g ∧ Below w.heap.size w w'
theorem wbel {w W W' : World} {b lo hi : Nat} (h : Below w.heap.size w W) (g : Wr b lo hi W W') (hb : w.heap.size ≤ b) : Below w.heap.size w W' := h.trans (g.below hb h.size)
set_option maxRecDepth 100000 in
set_option maxHeartbeats 8000000 in
theorem down_both (cs : List Cpx) (z : Cpx) (b off cap : Nat) (w : World) (hz : z.1 < 2 ^ 64 ∧ z.2 < 2 ^ 64) (h2 : 2 ≤ cs.length) (h65 : cs.length ≤ 65) (hcap : cs.length ≤ cap) (hc : Cells w b off cs) :
    Calls Tryz.prog 89 #[.slice (some ⟨b, off, none⟩) cs.length cap, .complex .f64 z.1 z.2, .func (.func 90) #[] #[]] w (DownRet cs z (fun v s => BothN cs z (cs.length - 1) v s) w) := by
  have HC := Lib.hid hc
  have hlb : b < w.heap.size := World.block_lt_of_cell? w _ (hc 0 (by omega))
  have HLB := Lib.hid hlb
  have ONE := Lib.hid (hone_any z.1 z.2 hz.1 hz.2)
  have hl := hc (cs.length - 1) (by omega)
  obtain ⟨l, hll⟩ : ∃ l, nth cs (cs.length - 1) = l := ⟨_, rfl⟩
  rw [hll] at hl
  have HLL := Lib.hid hll
  obtain ⟨n, hn⟩ : ∃ n, cs.length = n := ⟨_, rfl⟩
  have HN := Lib.hid hn
  rw [hn] at hl h2 h65 hcap ⊢
  have nI1 : (n : Int) ≤ 65 := by omega
  have nI2 : 2 ≤ (n : Int) := by omega
  have n65 : ¬ 65 < (n : Int) := by omega
  have n0 : ((n : Int) == 0) = false := by rw [beq_eq_false_iff_ne]; omega
  have nc : (n : Int) ≤ (cap : Int) := by omega
  have w1 : IntKind.i64.wrap ((n : Int) - 1) = ((n - 1 : Nat) : Int) := by rw [show ((n - 1 : Nat) : Int) = (n : Int) - 1 by omega]; exact IntWalk.i64_in _ (by omega)
  have nl : ((n - 1 : Nat) : Int) < (n : Int) := by omega
  have w2 : IntKind.i64.wrap ((n : Int) - 2) = (n : Int) - 2 := IntWalk.i64_in _ (by omega)
  have N2 := Lib.hid (And.intro h2 h65)
  clear hc hlb hz hll hn h2 h65 hcap
  go_enter Tryz.func89, Tryz.ntmps89
  go_wp2_with fail
  refine (ONE.out w).mono ?_
  rintro e w3 ⟨⟨r, rfl⟩, k3, rfl⟩
  obtain ⟨l1, l2⟩ := l
  have hl3 : ∀ o, ((w.drewN k3).alloc o).cell? ⟨b, off + (n - 1), none⟩ = some (.complex .f64 l1 l2) := fun o => cell_old (w := w.drewN k3) hl o
  have hf3 : ∀ (arr : Array Value) (T : TypeId), ((w.drewN k3).alloc (.cells arr T)).frozen? ⟨w.heap.size, 1, none⟩ = false := fun arr T => frozen_of_row _ _ _ _ _ (heap_alloc_new (w.drewN k3) (.cells arr T))
  have hc3 : ∀ (x0 x1 x2 x3 x4 : Value) (T : TypeId), ((w.drewN k3).alloc (.cells #[x0, x1, x2, x3, x4] T)).cell? ⟨w.heap.size, 1, none⟩ = some x1 := fun x0 x1 x2 x3 x4 T => by
    exact (cell_of_row _ _ _ _ _ _ (heap_alloc_new (w.drewN k3) (.cells #[x0, x1, x2, x3, x4] T))).trans rfl
  clear hl
  go_wp2_with fail
  refine (both1_any _ _).mono ?_
  rintro e w' ⟨rfl, rfl⟩
  go_wp2_with fail
  have hstart : HAt (((w.drewN k3).alloc (.cells #[.complex .f64 z.1 z.2, .complex .f64 0 0, .complex .f64 0 0, .float .f64 r, .float .f64 0] 102)).setCell ⟨w.heap.size, 1, none⟩ (.complex .f64 l1 l2)) w.heap.size z (l1, l2) (0, 0) :=
    HAt.setV (hnew (w.drewN k3) z r) l1 l2
  have bstart : Below w.heap.size w (((w.drewN k3).alloc (.cells #[.complex .f64 z.1 z.2, .complex .f64 0 0, .complex .f64 0 0, .float .f64 r, .float .f64 0] 102)).setCell ⟨w.heap.size, 1, none⟩ (.complex .f64 l1 l2)) :=
    wbel (bal (below_drewN (Below.refl _ w) k3)) (Wr.set (lo := 0) (hi := 5) _ (by omega) (by omega)) (Nat.le_refl _)
  go_loopw [10] (fun si wr => HDownB cs z w.heap.size w si wr) (fun si _ => (intOf si + 1).toNat)
  case atStart => exact ⟨n - 1, 0, (l1, l2), (0, 0), by have := HN.out; have := N2.out; omega, (by have := N2.out; congr 1; omega), ⟨HLL.out.symm, rfl⟩, hstart, bstart⟩
  case round =>
    obtain ⟨t, k, v, s, ht, rfl, hN, hA, hB⟩ := hrel
    have HNN := Lib.hid hN
    have HA := Lib.hid hA
    have HB := Lib.hid hB
    have HT := Lib.hid ht
    clear hN hA hB ht hstart bstart hl3 hf3 hc3
    cases t with
    | succ j =>
      have t1 : ((j + 1 : Nat) : Int) - 1 = (j : Int) := by omega
      rw [t1]
      have t2 : decide ((0 : Int) ≤ (j : Int)) = true := decide_eq_true (by omega)
      have hjn : (j : Int) < (n : Int) := by have := HT.out; have := HN.out; omega
      have cj : wr.cell? ⟨b, off + j, none⟩ = some (cv (nth cs j)) := (HB.out.cell (p := ⟨b, off + j, none⟩) HLB.out).trans (HC.out j (by have := HT.out; omega))
      obtain ⟨c, hcc⟩ : ∃ c, nth cs j = c := ⟨_, rfl⟩
      rw [hcc] at cj
      have HCC := Lib.hid hcc
      obtain ⟨c1, c2⟩ := c
      have cj' : wr.cell? ⟨b, off + j, none⟩ = some (.complex .f64 c1 c2) := cj
      clear cj hcc
      go_wp2_with fail
      refine (hboth_any w.heap.size z v s (c1, c2) wr HA.out).mono ?_
      intro e w5 h5
      rcases h5 with ⟨⟨u, rfl⟩, xv, ts, hs, hs2, ha, hw⟩
      have A5 := Lib.hid ha
      have B5 := Lib.hid (wbel HB.out hw (Nat.le_refl _))
      have S5 := Lib.hid hs
      have T5 := Lib.hid hs2
      clear hs2
      clear ha hs hw
      go_wp2_with fail
      go_roundw
      case rel => exact ⟨j, k + 1, xv, ts, by have := HT.out; omega, rfl, ⟨v, s, HNN.out, by rw [show cs.length - 2 - k = j by have := HT.out; omega, HCC.out]; exact S5.out, T5.out⟩, A5.out, B5.out⟩
      case measure => simp [intOf]
    | zero =>
      have t2 : decide ((0 : Int) ≤ ((0 : Nat) : Int) - 1) = false := rfl
      go_wp2_with fail
      go_ret2
      have e : n - 1 = k := by have := HT.out; have := HN.out; omega
      rw [← e] at HNN
      exact ⟨w.heap.size, v, s, rfl, HNN.out, HA.out, Nat.le_refl _, HB.out⟩
set_option maxRecDepth 100000 in
set_option maxHeartbeats 8000000 in
theorem down_value (cs : List Cpx) (z : Cpx) (b off cap : Nat) (w : World) (hz : z.1 < 2 ^ 64 ∧ z.2 < 2 ^ 64) (h2 : 2 ≤ cs.length) (h65 : cs.length ≤ 65) (hcap : cs.length ≤ cap) (hc : Cells w b off cs) :
    Calls Tryz.prog 89 #[.slice (some ⟨b, off, none⟩) cs.length cap, .complex .f64 z.1 z.2, .func (.func 92) #[] #[]] w (DownRet cs z (fun v s => ValN cs z (cs.length - 1) v) w) := by
  have HC := Lib.hid hc
  have hlb : b < w.heap.size := World.block_lt_of_cell? w _ (hc 0 (by omega))
  have HLB := Lib.hid hlb
  have ONE := Lib.hid (hone_any z.1 z.2 hz.1 hz.2)
  have hl := hc (cs.length - 1) (by omega)
  obtain ⟨l, hll⟩ : ∃ l, nth cs (cs.length - 1) = l := ⟨_, rfl⟩
  rw [hll] at hl
  have HLL := Lib.hid hll
  obtain ⟨n, hn⟩ : ∃ n, cs.length = n := ⟨_, rfl⟩
  have HN := Lib.hid hn
  rw [hn] at hl h2 h65 hcap ⊢
  have nI1 : (n : Int) ≤ 65 := by omega
  have nI2 : 2 ≤ (n : Int) := by omega
  have n65 : ¬ 65 < (n : Int) := by omega
  have n0 : ((n : Int) == 0) = false := by rw [beq_eq_false_iff_ne]; omega
  have nc : (n : Int) ≤ (cap : Int) := by omega
  have w1 : IntKind.i64.wrap ((n : Int) - 1) = ((n - 1 : Nat) : Int) := by rw [show ((n - 1 : Nat) : Int) = (n : Int) - 1 by omega]; exact IntWalk.i64_in _ (by omega)
  have nl : ((n - 1 : Nat) : Int) < (n : Int) := by omega
  have w2 : IntKind.i64.wrap ((n : Int) - 2) = (n : Int) - 2 := IntWalk.i64_in _ (by omega)
  have N2 := Lib.hid (And.intro h2 h65)
  clear hc hlb hz hll hn h2 h65 hcap
  go_enter Tryz.func89, Tryz.ntmps89
  go_wp2_with fail
  refine (ONE.out w).mono ?_
  rintro e w3 ⟨⟨r, rfl⟩, k3, rfl⟩
  obtain ⟨l1, l2⟩ := l
  have hl3 : ∀ o, ((w.drewN k3).alloc o).cell? ⟨b, off + (n - 1), none⟩ = some (.complex .f64 l1 l2) := fun o => cell_old (w := w.drewN k3) hl o
  have hf3 : ∀ (arr : Array Value) (T : TypeId), ((w.drewN k3).alloc (.cells arr T)).frozen? ⟨w.heap.size, 1, none⟩ = false := fun arr T => frozen_of_row _ _ _ _ _ (heap_alloc_new (w.drewN k3) (.cells arr T))
  have hc3 : ∀ (x0 x1 x2 x3 x4 : Value) (T : TypeId), ((w.drewN k3).alloc (.cells #[x0, x1, x2, x3, x4] T)).cell? ⟨w.heap.size, 1, none⟩ = some x1 := fun x0 x1 x2 x3 x4 T => by
    exact (cell_of_row _ _ _ _ _ _ (heap_alloc_new (w.drewN k3) (.cells #[x0, x1, x2, x3, x4] T))).trans rfl
  clear hl
  go_wp2_with fail
  refine (value1_any _ _).mono ?_
  rintro e w' ⟨rfl, rfl⟩
  go_wp2_with fail
  have hstart : HAt (((w.drewN k3).alloc (.cells #[.complex .f64 z.1 z.2, .complex .f64 0 0, .complex .f64 0 0, .float .f64 r, .float .f64 0] 102)).setCell ⟨w.heap.size, 1, none⟩ (.complex .f64 l1 l2)) w.heap.size z (l1, l2) (0, 0) :=
    HAt.setV (hnew (w.drewN k3) z r) l1 l2
  have bstart : Below w.heap.size w (((w.drewN k3).alloc (.cells #[.complex .f64 z.1 z.2, .complex .f64 0 0, .complex .f64 0 0, .float .f64 r, .float .f64 0] 102)).setCell ⟨w.heap.size, 1, none⟩ (.complex .f64 l1 l2)) :=
    wbel (bal (below_drewN (Below.refl _ w) k3)) (Wr.set (lo := 0) (hi := 5) _ (by omega) (by omega)) (Nat.le_refl _)
  go_loopw [10] (fun si wr => HDownV cs z w.heap.size w si wr) (fun si _ => (intOf si + 1).toNat)
  case atStart => exact ⟨n - 1, 0, (l1, l2), (0, 0), by have := HN.out; have := N2.out; omega, (by have := N2.out; congr 1; omega), HLL.out.symm, hstart, bstart⟩
  case round =>
    obtain ⟨t, k, v, s, ht, rfl, hN, hA, hB⟩ := hrel
    have HNN := Lib.hid hN
    have HA := Lib.hid hA
    have HB := Lib.hid hB
    have HT := Lib.hid ht
    clear hN hA hB ht hstart bstart hl3 hf3 hc3
    cases t with
    | succ j =>
      have t1 : ((j + 1 : Nat) : Int) - 1 = (j : Int) := by omega
      rw [t1]
      have t2 : decide ((0 : Int) ≤ (j : Int)) = true := decide_eq_true (by omega)
      have hjn : (j : Int) < (n : Int) := by have := HT.out; have := HN.out; omega
      have cj : wr.cell? ⟨b, off + j, none⟩ = some (cv (nth cs j)) := (HB.out.cell (p := ⟨b, off + j, none⟩) HLB.out).trans (HC.out j (by have := HT.out; omega))
      obtain ⟨c, hcc⟩ : ∃ c, nth cs j = c := ⟨_, rfl⟩
      rw [hcc] at cj
      have HCC := Lib.hid hcc
      obtain ⟨c1, c2⟩ := c
      have cj' : wr.cell? ⟨b, off + j, none⟩ = some (.complex .f64 c1 c2) := cj
      clear cj hcc
      go_wp2_with fail
      refine (hvalue_any w.heap.size z v s (c1, c2) wr HA.out).mono ?_
      intro e w5 h5
      rcases h5 with ⟨⟨u, rfl⟩, xv, hs, ha, hw⟩
      have A5 := Lib.hid ha
      have B5 := Lib.hid (wbel HB.out hw (Nat.le_refl _))
      have S5 := Lib.hid hs
      clear ha hs hw
      go_wp2_with fail
      go_roundw
      case rel => exact ⟨j, k + 1, xv, s, by have := HT.out; omega, rfl, ⟨v, HNN.out, by rw [show cs.length - 2 - k = j by have := HT.out; omega, HCC.out]; exact S5.out⟩, A5.out, B5.out⟩
      case measure => simp [intOf]
    | zero =>
      have t2 : decide ((0 : Int) ≤ ((0 : Nat) : Int) - 1) = false := rfl
      go_wp2_with fail
      go_ret2
      have e : n - 1 = k := by have := HT.out; have := HN.out; omega
      rw [← e] at HNN
      exact ⟨w.heap.size, v, s, rfl, HNN.out, HA.out, Nat.le_refl _, HB.out⟩
end Go.Proofs.YtokmommlabdcdaaGreat
set_option linter.unusedVariables false
set_option linter.unusedSimpArgs false
namespace Go.Proofs.YtokmommlabdcdaaGreat
open Wd Fl Go.RowKit
def CsOk (cs : List Cpx) : Prop := ∀ i, i < cs.length → (nth cs i).1 < 2 ^ 64 ∧ (nth cs i).2 < 2 ^ 64
def HValRet (cs : List Cpx) (z : Cpx) (w : World) (e : Ending) (w' : World) : Prop := ∃ v : Cpx, e = .returned (.tuple #[.complex .f64 v.1 v.2, .int .i64 0]) ∧ ValN cs z (cs.length - 1) v ∧ Below w.heap.size w w'
def HBothRet (cs : List Cpx) (z : Cpx) (w : World) (e : Ending) (w' : World) : Prop := ∃ v s : Cpx, e = .returned (.tuple #[.complex .f64 v.1 v.2, .complex .f64 s.1 s.2, .int .i64 0]) ∧ BothN cs z (cs.length - 1) v s ∧ Below w.heap.size w w'
def RBothRet (cs : List Cpx) (z : Cpx) (w : World) (e : Ending) (w' : World) : Prop := ∃ v s : Cpx, e = .returned (.tuple #[.complex .f64 v.1 v.2, .complex .f64 s.1 s.2]) ∧ BothN cs z (cs.length - 1) v s ∧ Below w.heap.size w w'
set_option maxRecDepth 100000 in
set_option maxHeartbeats 4000000 in
theorem hval_any (cs : List Cpx) (z : Cpx) (b off cap : Nat) (w : World) (hz : z.1 < 2 ^ 64 ∧ z.2 < 2 ^ 64) (h2 : 2 ≤ cs.length) (h65 : cs.length ≤ 65) (hcap : cs.length ≤ cap) (hc : Cells w b off cs) :
    Calls Tryz.prog 68 #[.slice (some ⟨b, off, none⟩) cs.length cap, .complex .f64 z.1 z.2] w (HValRet cs z w) := by
  have D := Lib.hid (down_value cs z b off cap w hz h2 h65 hcap hc)
  clear hz h2 h65 hcap hc
  go_enter Tryz.func68, Tryz.ntmps68
  go_wp2_with fail
  refine D.out.mono ?_
  intro e w1 h1
  rcases h1 with ⟨g, v, s, rfl, hv, ha, hg, hb⟩
  obtain ⟨c0, c1, c2, f1, f2⟩ := ha.cells
  have V := Lib.hid hv
  have B := Lib.hid hb
  clear hv ha hg hb c0 c2 f1 f2
  go_wp2_with fail
  go_ret2
  exact ⟨v, rfl, V.out, B.out⟩
set_option maxRecDepth 100000 in
set_option maxHeartbeats 4000000 in
theorem hbothv_any (cs : List Cpx) (z : Cpx) (b off cap : Nat) (w : World) (hz : z.1 < 2 ^ 64 ∧ z.2 < 2 ^ 64) (h2 : 2 ≤ cs.length) (h65 : cs.length ≤ 65) (hcap : cs.length ≤ cap) (hc : Cells w b off cs) :
    Calls Tryz.prog 65 #[.slice (some ⟨b, off, none⟩) cs.length cap, .complex .f64 z.1 z.2] w (HBothRet cs z w) := by
  have D := Lib.hid (down_both cs z b off cap w hz h2 h65 hcap hc)
  clear hz h2 h65 hcap hc
  go_enter Tryz.func65, Tryz.ntmps65
  go_wp2_with fail
  refine D.out.mono ?_
  intro e w1 h1
  rcases h1 with ⟨g, v, s, rfl, hv, ha, hg, hb⟩
  obtain ⟨c0, c1, c2, f1, f2⟩ := ha.cells
  have V := Lib.hid hv
  have B := Lib.hid hb
  clear hv ha hg hb c0 f1 f2
  go_wp2_with fail
  go_quiet (fail)
  go_wp2_with fail
  go_ret3
  exact ⟨v, s, rfl, V.out, below_drewN B.out _⟩
/-- the walk's slots and world -/
def RDown (cs : List Cpx) (z : Cpx) (w : World) (sv ss si : Value) (wr : World) : Prop :=
  ∃ (t n : Nat) (v s : Cpx), t + n + 1 = cs.length ∧ sv = .complex .f64 v.1 v.2 ∧ ss = .complex .f64 s.1 s.2 ∧ si = .int .i64 ((t : Int) - 1) ∧ BothN cs z n v s ∧ (v.1 < 2 ^ 64 ∧ v.2 < 2 ^ 64 ∧ s.1 < 2 ^ 64 ∧ s.2 < 2 ^ 64) ∧ Below w.heap.size w wr
set_option maxRecDepth 100000 in
set_option maxHeartbeats 8000000 in
theorem rboth_any (cs : List Cpx) (z : Cpx) (b off cap : Nat) (w : World) (hz : z.1 < 2 ^ 64 ∧ z.2 < 2 ^ 64) (h2 : 2 ≤ cs.length) (h65 : cs.length ≤ 65) (hcap : cs.length ≤ cap) (hc : Cells w b off cs) (hok : CsOk cs) :
    Calls Tryz.prog 64 #[.slice (some ⟨b, off, none⟩) cs.length cap, .complex .f64 z.1 z.2] w (RBothRet cs z w) := by
  have HC := Lib.hid hc
  have OK := Lib.hid hok
  have hlb : b < w.heap.size := World.block_lt_of_cell? w _ (hc 0 (by omega))
  have HLB := Lib.hid hlb
  obtain ⟨z1, z2⟩ := z
  have Z1 := Lib.hid hz.1
  have Z2 := Lib.hid hz.2
  have hl := hc (cs.length - 1) (by omega)
  obtain ⟨l, hll⟩ : ∃ l, nth cs (cs.length - 1) = l := ⟨_, rfl⟩
  rw [hll] at hl
  have HLL := Lib.hid hll
  have OKL := Lib.hid (show l.1 < 2 ^ 64 ∧ l.2 < 2 ^ 64 by rw [← hll]; exact hok _ (by omega))
  obtain ⟨n, hn⟩ : ∃ n, cs.length = n := ⟨_, rfl⟩
  have HN := Lib.hid hn
  rw [hn] at hl h2 h65 hcap ⊢
  obtain ⟨l1, l2⟩ := l
  have hl3 : w.cell? ⟨b, off + (n - 1), none⟩ = some (.complex .f64 l1 l2) := hl
  have nI1 : (n : Int) ≤ 65 := by omega
  have nI2 : 2 ≤ (n : Int) := by omega
  have n0 : ((n : Int) == 0) = false := by rw [beq_eq_false_iff_ne]; omega
  have nc : (n : Int) ≤ (cap : Int) := by omega
  have w1 : IntKind.i64.wrap ((n : Int) - 1) = ((n - 1 : Nat) : Int) := by rw [show ((n - 1 : Nat) : Int) = (n : Int) - 1 by omega]; exact IntWalk.i64_in _ (by omega)
  have nl : ((n - 1 : Nat) : Int) < (n : Int) := by omega
  have w2 : IntKind.i64.wrap ((n : Int) - 2) = (n : Int) - 2 := IntWalk.i64_in _ (by omega)
  have N2 := Lib.hid (And.intro h2 h65)
  clear hc hlb hz hll hn h2 h65 hcap hl hok
  go_enter Tryz.func64, Tryz.ntmps64
  go_wp2_with fail
  go_loopw [6, 7, 8] (fun sv ss si wr => RDown cs (z1, z2) w sv ss si wr) (fun _ _ si _ => (intOf si + 1).toNat)
  case atStart => exact ⟨n - 1, 0, (l1, l2), (0, 0), by have := HN.out; have := N2.out; omega, rfl, rfl, (by have := N2.out; congr 1; omega), ⟨HLL.out.symm, rfl⟩, ⟨OKL.out.1, OKL.out.2, by decide, by decide⟩, Below.refl _ _⟩
  case round =>
    obtain ⟨t, k, v, s, ht, rfl, rfl, rfl, hN, hl, hB⟩ := hrel
    have HNN := Lib.hid hN
    have HB := Lib.hid hB
    have HT := Lib.hid ht
    obtain ⟨v1, v2⟩ := v
    obtain ⟨s1, s2⟩ := s
    have V1 := Lib.hid hl.1
    have V2 := Lib.hid hl.2.1
    have S1 := Lib.hid hl.2.2.1
    have S2 := Lib.hid hl.2.2.2
    clear hN hB ht hl hl3
    simp only at V1 V2 S1 S2
    cases t with
    | succ j =>
      have t1 : ((j + 1 : Nat) : Int) - 1 = (j : Int) := by omega
      rw [t1]
      have t2 : decide ((0 : Int) ≤ (j : Int)) = true := decide_eq_true (by omega)
      have hjn : (j : Int) < (n : Int) := by have := HT.out; have := HN.out; omega
      have hjl : j < cs.length := by have := HT.out; omega
      have HJC := Lib.hid (fun W (hW : Below w.heap.size w W) => (hW.cell (p := ⟨b, off + j, none⟩) HLB.out).trans (HC.out j hjl))
      have hcok := OK.out j hjl
      obtain ⟨c, hcc⟩ : ∃ c, nth cs j = c := ⟨_, rfl⟩
      rw [hcc] at hcok HJC
      have HCC := Lib.hid hcc
      obtain ⟨c1, c2⟩ := c
      have C1 := Lib.hid hcok.1
      have C2 := Lib.hid hcok.2
      clear hcc hcok hjl
      go_wp2_with fail
      refine (refmul_any s1 s2 z1 z2 wr S1.out S2.out Z1.out Z2.out).mono ?_
      rintro e wa ⟨x1, y1, r1, rfl, hb⟩
      have R1 := Lib.hid r1
      have B1 := Lib.hid (HB.out.trans (hb.mono HB.out.size))
      clear r1 hb
      go_wp2_with fail
      refine (refadd_any x1 y1 v1 v2 wa R1.out.lt.1 R1.out.lt.2 V1.out V2.out).mono ?_
      rintro e wb ⟨x2, y2, r2, rfl, hb⟩
      have R2 := Lib.hid r2
      have B2 := Lib.hid (B1.out.trans (hb.mono B1.out.size))
      clear r2 hb
      have cj : wb.drew.cell? ⟨b, off + j, none⟩ = some (.complex .f64 c1 c2) := HJC.out _ B2.out.drew
      go_wp2_with fail
      go_region_law (first | (go_simp; go_at_call 20; (with_reducible refine (refmul_any v1 v2 z1 z2 _ V1.out V2.out Z1.out Z2.out).mono ?_); intro e wd h3; rcases h3 with ⟨x3, y3, r3, he, hb⟩; subst he; have R3 := Lib.hid r3; have B3 := Lib.hid (B2.out.drew.trans (hb.mono B2.out.drew.size)); have cj3 : wd.cell? ⟨b, off + j, none⟩ = some (.complex .f64 c1 c2) := HJC.out _ B3.out; clear r3 hb) | (go_simp; go_at_call 16; (with_reducible refine (refadd_any x3 y3 c1 c2 _ R3.out.lt.1 R3.out.lt.2 C1.out C2.out).mono ?_); intro e we h4; rcases h4 with ⟨x4, y4, r4, he, hb⟩; subst he; have R4 := Lib.hid r4; have B4 := Lib.hid (B3.out.trans (hb.mono B3.out.size)); clear r4 hb))
      all_goals
        go_wp2_with fail
        go_roundw
        case rel => exact ⟨j, k + 1, (x4, y4), (x2, y2), by have := HT.out; omega, rfl, rfl, rfl, ⟨(v1, v2), (s1, s2), HNN.out, ⟨x3, y3, R3.out, by rw [show cs.length - 2 - k = j by have := HT.out; omega, HCC.out]; exact R4.out⟩, ⟨x1, y1, R1.out, R2.out⟩⟩, ⟨R4.out.1.lt, R4.out.2.lt, R2.out.1.lt, R2.out.2.lt⟩, B4.out⟩
        case measure => simp [intOf]
    | zero =>
      have t2 : decide ((0 : Int) ≤ ((0 : Nat) : Int) - 1) = false := rfl
      go_wp2_with fail
      go_ret2
      have e : n - 1 = k := by have := HT.out; have := HN.out; omega
      rw [← HN.out] at e
      rw [← e] at HNN
      exact ⟨(v1, v2), (s1, s2), rfl, HNN.out, HB.out⟩
end Go.Proofs.YtokmommlabdcdaaGreat
set_option linter.unusedVariables false
set_option linter.unusedSimpArgs false
namespace Go.Proofs.YtokmommlabdcdaaGreat
open Wd Fl Go.RowKit
theorem slShape {w : World} {v : Value} {zs : List Cpx} (h : Sl w v zs) : ∃ a cap, v = .slice a zs.length cap ∧ (0 < zs.length → ∃ b off, a = some ⟨b, off, none⟩ ∧ zs.length ≤ cap ∧ Cells w b off zs) := by
  rcases h with ⟨rfl, rfl⟩ | ⟨b, off, cap, rfl, hc, hh⟩
  · exact ⟨none, 0, rfl, fun h => absurd h (by decide)⟩
  · exact ⟨_, cap, rfl, fun _ => ⟨b, off, rfl, hc, hh⟩⟩
/-- a number and no error, or nothing and an error -/
def StepRet (bad : Int) (R : Cpx → Prop) (w : World) (e : Ending) (w' : World) : Prop := ∃ x : Cpx, e = .returned (.tuple #[.complex .f64 x.1 x.2, .int .i64 bad]) ∧ (bad = 0 → R x) ∧ (bad ≠ 0 → x = (0, 0)) ∧ Below w.heap.size w w'
def NewtonR (cs : List Cpx) (z x : Cpx) : Prop := ∃ v s q : Cpx, BothN cs z (cs.length - 1) v s ∧ DivR v.1 v.2 s.1 s.2 q.1 q.2 ∧ SubR z.1 z.2 q.1 q.2 x.1 x.2
def newtonCode (n : Nat) : Int := if n < 2 ∨ 65 < n then 180 else 0
def fitCode (n m : Nat) (i : Int) : Int := if n < 2 ∨ 65 < n ∨ m + 1 ≠ n then 180 else if i < 0 ∨ (m : Int) ≤ i then 182 else 0
theorem nthOk {cs : List Cpx} (h : CsOk cs) (i : Nat) : (nth cs i).1 < 2 ^ 64 ∧ (nth cs i).2 < 2 ^ 64 := by
  by_cases hi : i < cs.length
  · exact h i hi
  · have : nth cs i = (0, 0) := by simp [nth, List.getD_eq_getElem?_getD, List.getElem?_eq_none (Nat.not_lt.1 hi)]
    rw [this]; decide
theorem BothN.lt {cs : List Cpx} (ok : CsOk cs) {z : Cpx} : ∀ {n : Nat} {v s : Cpx}, BothN cs z n v s → (v.1 < 2 ^ 64 ∧ v.2 < 2 ^ 64) ∧ (s.1 < 2 ^ 64 ∧ s.2 < 2 ^ 64)
  | 0, _, _, ⟨h1, h2⟩ => by subst h1; subst h2; exact ⟨nthOk ok _, by decide, by decide⟩
  | _ + 1, _, _, ⟨_, _, _, h1, h2⟩ => ⟨h1.lt, h2.lt⟩
theorem ValN.lt {cs : List Cpx} (ok : CsOk cs) {z : Cpx} : ∀ {n : Nat} {v : Cpx}, ValN cs z n v → v.1 < 2 ^ 64 ∧ v.2 < 2 ^ 64
  | 0, _, h1 => by subst h1; exact nthOk ok _
  | _ + 1, _, ⟨_, _, h1⟩ => h1.lt
set_option maxRecDepth 100000 in
set_option maxHeartbeats 4000000 in
theorem fit_any (a a' : Option Addr) (n cap m cap' : Nat) (i : Int) (w : World) :
    Calls Tryz.prog 66 #[.slice a n cap, .slice a' m cap', .int .i64 i] w fun e w' => e = .returned (.int .i64 (fitCode n m i)) ∧ w = w' := by
  by_cases h1 : n < 2
  · have hf : fitCode n m i = 180 := if_pos (.inl h1)
    rw [hf]
    have d1 : decide ((n : Int) < 2) = true := decide_eq_true (by omega)
    go_enter Tryz.func66, Tryz.ntmps66
    go_wp2_with fail
    go_ret
    exact ⟨rfl, rfl⟩
  have d1 : decide ((n : Int) < 2) = false := decide_eq_false (by omega)
  by_cases h2 : 65 < n
  · have hf : fitCode n m i = 180 := if_pos (.inr (.inl h2))
    rw [hf]
    have d2 : decide (65 < (n : Int)) = true := decide_eq_true (by omega)
    go_enter Tryz.func66, Tryz.ntmps66
    go_wp2_with fail
    go_ret
    exact ⟨rfl, rfl⟩
  have d2 : decide (65 < (n : Int)) = false := decide_eq_false (by omega)
  have w1 : IntKind.i64.wrap ((n : Int) - 1) = ((n - 1 : Nat) : Int) := by rw [show ((n - 1 : Nat) : Int) = (n : Int) - 1 by omega]; exact IntWalk.i64_in _ (by omega)
  by_cases h3 : m + 1 ≠ n
  · have hf : fitCode n m i = 180 := if_pos (.inr (.inr h3))
    rw [hf]
    have d3 : ((m : Int) == ((n - 1 : Nat) : Int)) = false := by rw [beq_eq_false_iff_ne]; omega
    clear h1 h2 h3 hf
    go_enter Tryz.func66, Tryz.ntmps66
    go_wp2_with fail
    go_ret
    exact ⟨rfl, rfl⟩
  have d3 : ((m : Int) == ((n - 1 : Nat) : Int)) = true := by rw [beq_iff_eq]; omega
  have hF : ¬ (n < 2 ∨ 65 < n ∨ m + 1 ≠ n) := by omega
  by_cases h4 : i < 0
  · have hf : fitCode n m i = 182 := by unfold fitCode; rw [if_neg hF, if_pos (.inl h4)]
    rw [hf]
    have d4 : decide (i < 0) = true := decide_eq_true h4
    clear h1 h2 h3 h4 hf hF
    go_enter Tryz.func66, Tryz.ntmps66
    go_wp2_with fail
    go_ret
    exact ⟨rfl, rfl⟩
  have d4 : decide (i < 0) = false := decide_eq_false h4
  by_cases h5 : (m : Int) ≤ i
  · have hf : fitCode n m i = 182 := by unfold fitCode; rw [if_neg hF, if_pos (.inr h5)]
    rw [hf]
    have d5 : decide ((m : Int) ≤ i) = true := decide_eq_true h5
    clear h1 h2 h3 h4 h5 hf hF
    go_enter Tryz.func66, Tryz.ntmps66
    go_wp2_with fail
    go_ret
    exact ⟨rfl, rfl⟩
  have d5 : decide ((m : Int) ≤ i) = false := decide_eq_false h5
  have hf : fitCode n m i = 0 := by unfold fitCode; rw [if_neg hF, if_neg (by omega)]
  rw [hf]
  clear h1 h2 h3 h4 h5 hf hF
  go_enter Tryz.func66, Tryz.ntmps66
  go_wp2_with fail
  go_ret
  exact ⟨rfl, rfl⟩
set_option maxRecDepth 100000 in
set_option maxHeartbeats 4000000 in
theorem newton_any (cs : List Cpx) (z : Cpx) (v : Value) (w : World) (hv : Sl w v cs) (ok : CsOk cs) (hz : z.1 < 2 ^ 64 ∧ z.2 < 2 ^ 64) :
    Calls Tryz.prog 33 #[v, .complex .f64 z.1 z.2] w (StepRet (newtonCode cs.length) (NewtonR cs z) w) := by
  obtain ⟨a, cap, rfl, hs⟩ := slShape hv
  by_cases h1 : cs.length < 2
  · have hf : newtonCode cs.length = 180 := if_pos (.inl h1)
    rw [hf]
    have d1 : decide ((cs.length : Int) < 2) = true := decide_eq_true (by omega)
    clear hv ok hz hs hf h1
    go_enter Tryz.func33, Tryz.ntmps33
    go_wp2_with fail
    go_ret2
    exact ⟨(0, 0), rfl, fun h => absurd h (by decide), fun _ => rfl, Below.refl _ _⟩
  have d1 : decide ((cs.length : Int) < 2) = false := decide_eq_false (by omega)
  by_cases h2 : 65 < cs.length
  · have hf : newtonCode cs.length = 180 := if_pos (.inr h2)
    rw [hf]
    have d2 : decide (65 < (cs.length : Int)) = true := decide_eq_true (by omega)
    clear hv ok hz hs hf h1 h2
    go_enter Tryz.func33, Tryz.ntmps33
    go_wp2_with fail
    go_ret2
    exact ⟨(0, 0), rfl, fun h => absurd h (by decide), fun _ => rfl, Below.refl _ _⟩
  have d2 : decide (65 < (cs.length : Int)) = false := decide_eq_false (by omega)
  have hf : newtonCode cs.length = 0 := by unfold newtonCode; rw [if_neg (by omega)]
  rw [hf]
  obtain ⟨b, off, rfl, hcap, hc⟩ := hs (by omega)
  have HB := Lib.hid (hbothv_any cs z b off cap w hz (by omega) (by omega) hcap hc)
  have OK := Lib.hid ok
  obtain ⟨z1, z2⟩ := z
  clear hv ok hz hs hf h1 h2 hcap hc
  go_enter Tryz.func33, Tryz.ntmps33
  go_wp2_with fail
  refine HB.out.mono ?_
  intro e w1 h1
  rcases h1 with ⟨v, s, rfl, hN, hb⟩
  have NB := Lib.hid hN
  have B1 := Lib.hid hb
  clear hN hb
  have LV := Lib.hid (NB.out.lt OK.out)
  obtain ⟨v1, v2⟩ := v
  obtain ⟨s1, s2⟩ := s
  go_wp2_with fail
  refine (div_any v1 v2 s1 s2 LV.out.2.1 LV.out.2.2 w1).mono ?_
  intro e w2 h2
  rcases h2 with ⟨q1, q2, n2, hd, rfl, rfl⟩
  have DQ := Lib.hid hd
  clear hd
  go_wp2_with fail
  refine (sub_any z1 z2 q1 q2 _).mono ?_
  intro e w3 h3
  rcases h3 with ⟨x1, x2, n3, hd, rfl, rfl⟩
  have SX := Lib.hid hd
  clear hd
  go_wp2_with fail
  go_ret2
  exact ⟨(x1, x2), rfl, fun _ => ⟨(v1, v2), (s1, s2), (q1, q2), NB.out, DQ.out, SX.out⟩, fun h => absurd rfl h, below_drewN B1.out _⟩
end Go.Proofs.YtokmommlabdcdaaGreat
set_option linter.unusedVariables false
set_option linter.unusedSimpArgs false
namespace Go.Proofs.YtokmommlabdcdaaGreat
open Wd Fl Go.RowKit
/-- k rounds over the differences to the other points -/
def FoldS (R : Cpx → Cpx → Cpx → Prop) (zs : List Cpx) (i : Nat) (s : Cpx) : Nat → Cpx → Prop
  | 0, x => x = s
  | k + 1, x => ∃ y, FoldS R zs i s k y ∧ ((k = i ∧ x = y) ∨ (k ≠ i ∧ ∃ d : Cpx, SubR (nth zs i).1 (nth zs i).2 (nth zs k).1 (nth zs k).2 d.1 d.2 ∧ R y d x))
/-- what the function that is handed does -/
def ByOk (f : FuncId) (R : Cpx → Cpx → Cpx → Prop) : Prop := ∀ (s d : Cpx) (w : World), (d.1 < 2 ^ 64 ∧ d.2 < 2 ^ 64) → Calls Tryz.prog f #[.complex .f64 s.1 s.2, .complex .f64 d.1 d.2] w fun e w' => ∃ x : Cpx, ∃ n, R s d x ∧ e = .returned (.complex .f64 x.1 x.2) ∧ w' = w.drewN n
def MulS (s d x : Cpx) : Prop := MulR s.1 s.2 d.1 d.2 x.1 x.2
def cOne : Cpx := (4607182418800017408, 0)
def InvS (s d x : Cpx) : Prop := ∃ q : Cpx, DivR cOne.1 cOne.2 d.1 d.2 q.1 q.2 ∧ AddR s.1 s.2 q.1 q.2 x.1 x.2
def Fold1 (R : Cpx → Cpx → Cpx → Prop) (zs : List Cpx) (i : Nat) (s : Cpx) (w : World) (sv s9 s10 si : Value) (wr : World) : Prop := ∃ (k n : Nat) (x : Cpx), k ≤ zs.length ∧ sv = .complex .f64 x.1 x.2 ∧ si = .int .i64 (k : Int) ∧ FoldS R zs i s k x ∧ wr = w.drewN n
theorem mul_by : ByOk 19 MulS := fun s d w _ => (mul_any s.1 s.2 d.1 d.2 w).mono fun _ _ ⟨x, y, n, h, e, g⟩ => ⟨(x, y), n, h, e, g⟩
set_option maxRecDepth 100000 in
set_option maxHeartbeats 4000000 in
theorem inv_by : ByOk 69 InvS := by
  intro s d w hd
  have L := Lib.hid hd
  obtain ⟨s1, s2⟩ := s
  obtain ⟨d1, d2⟩ := d
  clear hd
  go_enter Tryz.func69, Tryz.ntmps69
  go_wp2_with fail
  refine (div_any _ _ d1 d2 L.out.1 L.out.2 _).mono ?_
  intro e w2 h2
  rcases h2 with ⟨q1, q2, n2, hd, rfl, rfl⟩
  have DQ := Lib.hid hd
  clear hd
  go_wp2_with fail
  refine (add_any s1 s2 q1 q2 _).mono ?_
  intro e w3 h3
  rcases h3 with ⟨x1, x2, n3, hd, rfl, rfl⟩
  have SX := Lib.hid hd
  clear hd
  go_wp2_with fail
  go_ret
  exact ⟨(x1, x2), _, ⟨(q1, q2), DQ.out, SX.out⟩, rfl, rfl⟩
set_option maxRecDepth 100000 in
set_option maxHeartbeats 4000000 in
theorem fold_mul (zs : List Cpx) (i : Nat) (s : Cpx) (b off cap : Nat) (w : World) (hi : i < zs.length) (hl : zs.length ≤ 64) (hcap : zs.length ≤ cap) (hc : Cells w b off zs) :
    Calls Tryz.prog 67 #[.slice (some ⟨b, off, none⟩) zs.length cap, .int .i64 (i : Nat), .complex .f64 s.1 s.2, .func (.func 19) #[] #[]] w fun e w' => ∃ x : Cpx, ∃ n, FoldS MulS zs i s zs.length x ∧ e = .returned (.complex .f64 x.1 x.2) ∧ w' = w.drewN n := by
  have HC := Lib.hid hc
  have HI := Lib.hid hi
  have hif : (i : Int) < (zs.length : Int) := by omega
  have nc : (zs.length : Int) ≤ (cap : Int) := by omega
  have hci := hc i hi
  obtain ⟨zi, hzi⟩ : ∃ z, nth zs i = z := ⟨_, rfl⟩
  rw [hzi] at hci
  have ZI := Lib.hid hzi
  obtain ⟨a1, a2⟩ := zi
  have CI := Lib.hid (show ∀ n, (w.drewN n).cell? ⟨b, off + i, none⟩ = some (.complex .f64 a1 a2) from fun _ => hci)
  have HLN := Lib.hid hl
  clear hc hi hci hzi hl hcap
  go_enter Tryz.func67, Tryz.ntmps67
  go_wp2_with fail
  go_loopw [2, 9, 10, 13] (fun sv s9 s10 si wr => Fold1 MulS zs i s w sv s9 s10 si wr) (fun _ _ _ si _ => zs.length - (intOf si).toNat)
  case atStart => exact ⟨0, 0, s, Nat.zero_le _, rfl, rfl, rfl, rfl⟩
  case round =>
    obtain ⟨k, n, x, hk, rfl, rfl, hF, rfl⟩ := hrel
    have HF := Lib.hid hF
    have HK := Lib.hid hk
    clear hF hk
    by_cases hlt : k < zs.length
    · have hlt' : decide ((k : Int) < (zs.length : Int)) = true := decide_eq_true (by omega)
      have hlt2 : (k : Int) < (zs.length : Int) := by omega
      obtain ⟨c, hcc⟩ : ∃ c, nth zs k = c := ⟨_, rfl⟩
      have hck : (w.drewN n).cell? ⟨b, off + k, none⟩ = some (cv (nth zs k)) := HC.out k hlt
      rw [hcc] at hck
      have KC := Lib.hid hcc
      obtain ⟨c1, c2⟩ := c
      have hck2 : (w.drewN n).cell? ⟨b, off + k, none⟩ = some (.complex .f64 c1 c2) := hck
      have hw1 : IntKind.i64.wrap ((k : Int) + 1) = ((k + 1 : Nat) : Int) := by have := HLN.out; rw [show ((k + 1 : Nat) : Int) = (k : Int) + 1 by omega]; exact IntWalk.i64_in _ (by omega)
      clear hcc hck
      by_cases hki : k = i
      · have hki' : ((k : Int) == (i : Int)) = true := by rw [beq_iff_eq]; omega
        have KI := Lib.hid hki
        clear hki
        go_wp2_with fail
        go_roundw
        case rel => exact ⟨k + 1, n, x, by omega, rfl, rfl, ⟨x, HF.out, .inl ⟨KI.out, rfl⟩⟩, rfl⟩
        case measure => simp [intOf]; omega
      · have hki' : ((k : Int) == (i : Int)) = false := by rw [beq_eq_false_iff_ne]; omega
        have KI := Lib.hid hki
        have hci3 := CI.out n
        clear hki
        obtain ⟨x1, x2⟩ := x
        go_wp2_with fail
        refine (sub_any a1 a2 c1 c2 _).mono ?_
        intro e w3 h3
        rcases h3 with ⟨d1, d2, n3, hd, rfl, rfl⟩
        have SX := Lib.hid hd
        clear hd
        go_wp2_with fail
        refine (mul_by (x1, x2) (d1, d2) _ ⟨SX.out.1.lt, SX.out.2.lt⟩).mono ?_
        intro e w4 h4
        rcases h4 with ⟨y, n4, hd, rfl, rfl⟩
        have RY := Lib.hid hd
        clear hd
        go_wp2_with fail
        go_roundw
        case rel => exact ⟨k + 1, _, y, by omega, rfl, rfl, ⟨(x1, x2), HF.out, .inr ⟨KI.out, (d1, d2), by rw [ZI.out, KC.out]; exact SX.out, RY.out⟩⟩, rfl⟩
        case measure => simp [intOf]; omega
    · obtain rfl : k = zs.length := by have := HK.out; omega
      have hge : decide ((zs.length : Int) < (zs.length : Int)) = false := decide_eq_false (by omega)
      go_wp2_with fail
      go_ret
      exact ⟨x, _, HF.out, rfl, rfl⟩

set_option maxRecDepth 100000 in
set_option maxHeartbeats 4000000 in
theorem fold_inv (zs : List Cpx) (i : Nat) (s : Cpx) (b off cap : Nat) (w : World) (hi : i < zs.length) (hl : zs.length ≤ 64) (hcap : zs.length ≤ cap) (hc : Cells w b off zs) :
    Calls Tryz.prog 67 #[.slice (some ⟨b, off, none⟩) zs.length cap, .int .i64 (i : Nat), .complex .f64 s.1 s.2, .func (.func 69) #[] #[]] w fun e w' => ∃ x : Cpx, ∃ n, FoldS InvS zs i s zs.length x ∧ e = .returned (.complex .f64 x.1 x.2) ∧ w' = w.drewN n := by
  have HC := Lib.hid hc
  have HI := Lib.hid hi
  have hif : (i : Int) < (zs.length : Int) := by omega
  have nc : (zs.length : Int) ≤ (cap : Int) := by omega
  have hci := hc i hi
  obtain ⟨zi, hzi⟩ : ∃ z, nth zs i = z := ⟨_, rfl⟩
  rw [hzi] at hci
  have ZI := Lib.hid hzi
  obtain ⟨a1, a2⟩ := zi
  have CI := Lib.hid (show ∀ n, (w.drewN n).cell? ⟨b, off + i, none⟩ = some (.complex .f64 a1 a2) from fun _ => hci)
  have HLN := Lib.hid hl
  clear hc hi hci hzi hl hcap
  go_enter Tryz.func67, Tryz.ntmps67
  go_wp2_with fail
  go_loopw [2, 9, 10, 13] (fun sv s9 s10 si wr => Fold1 InvS zs i s w sv s9 s10 si wr) (fun _ _ _ si _ => zs.length - (intOf si).toNat)
  case atStart => exact ⟨0, 0, s, Nat.zero_le _, rfl, rfl, rfl, rfl⟩
  case round =>
    obtain ⟨k, n, x, hk, rfl, rfl, hF, rfl⟩ := hrel
    have HF := Lib.hid hF
    have HK := Lib.hid hk
    clear hF hk
    by_cases hlt : k < zs.length
    · have hlt' : decide ((k : Int) < (zs.length : Int)) = true := decide_eq_true (by omega)
      have hlt2 : (k : Int) < (zs.length : Int) := by omega
      obtain ⟨c, hcc⟩ : ∃ c, nth zs k = c := ⟨_, rfl⟩
      have hck : (w.drewN n).cell? ⟨b, off + k, none⟩ = some (cv (nth zs k)) := HC.out k hlt
      rw [hcc] at hck
      have KC := Lib.hid hcc
      obtain ⟨c1, c2⟩ := c
      have hck2 : (w.drewN n).cell? ⟨b, off + k, none⟩ = some (.complex .f64 c1 c2) := hck
      have hw1 : IntKind.i64.wrap ((k : Int) + 1) = ((k + 1 : Nat) : Int) := by have := HLN.out; rw [show ((k + 1 : Nat) : Int) = (k : Int) + 1 by omega]; exact IntWalk.i64_in _ (by omega)
      clear hcc hck
      by_cases hki : k = i
      · have hki' : ((k : Int) == (i : Int)) = true := by rw [beq_iff_eq]; omega
        have KI := Lib.hid hki
        clear hki
        go_wp2_with fail
        go_roundw
        case rel => exact ⟨k + 1, n, x, by omega, rfl, rfl, ⟨x, HF.out, .inl ⟨KI.out, rfl⟩⟩, rfl⟩
        case measure => simp [intOf]; omega
      · have hki' : ((k : Int) == (i : Int)) = false := by rw [beq_eq_false_iff_ne]; omega
        have KI := Lib.hid hki
        have hci3 := CI.out n
        clear hki
        obtain ⟨x1, x2⟩ := x
        go_wp2_with fail
        refine (sub_any a1 a2 c1 c2 _).mono ?_
        intro e w3 h3
        rcases h3 with ⟨d1, d2, n3, hd, rfl, rfl⟩
        have SX := Lib.hid hd
        clear hd
        go_wp2_with fail
        refine (inv_by (x1, x2) (d1, d2) _ ⟨SX.out.1.lt, SX.out.2.lt⟩).mono ?_
        intro e w4 h4
        rcases h4 with ⟨y, n4, hd, rfl, rfl⟩
        have RY := Lib.hid hd
        clear hd
        go_wp2_with fail
        go_roundw
        case rel => exact ⟨k + 1, _, y, by omega, rfl, rfl, ⟨(x1, x2), HF.out, .inr ⟨KI.out, (d1, d2), by rw [ZI.out, KC.out]; exact SX.out, RY.out⟩⟩, rfl⟩
        case measure => simp [intOf]; omega
    · obtain rfl : k = zs.length := by have := HK.out; omega
      have hge : decide ((zs.length : Int) < (zs.length : Int)) = false := decide_eq_false (by omega)
      go_wp2_with fail
      go_ret
      exact ⟨x, _, HF.out, rfl, rfl⟩
end Go.Proofs.YtokmommlabdcdaaGreat
set_option linter.unusedVariables false
set_option linter.unusedSimpArgs false
namespace Go.Proofs.YtokmommlabdcdaaGreat
open Wd Fl Go.RowKit
def WeierR (cs zs : List Cpx) (i : Int) (x : Cpx) : Prop := ∃ d v q : Cpx, FoldS MulS zs i.toNat (nth cs (cs.length - 1)) zs.length d ∧ ValN cs (nth zs i.toNat) (cs.length - 1) v ∧ DivR v.1 v.2 d.1 d.2 q.1 q.2 ∧ SubR (nth zs i.toNat).1 (nth zs i.toNat).2 q.1 q.2 x.1 x.2
def AberthR (cs zs : List Cpx) (i : Int) (x : Cpx) : Prop := ∃ v s q a p r t : Cpx, BothN cs (nth zs i.toNat) (cs.length - 1) v s ∧ DivR v.1 v.2 s.1 s.2 q.1 q.2 ∧ FoldS InvS zs i.toNat (0, 0) zs.length a ∧ MulR q.1 q.2 a.1 a.2 p.1 p.2 ∧ SubR cOne.1 cOne.2 p.1 p.2 r.1 r.2 ∧ DivR q.1 q.2 r.1 r.2 t.1 t.2 ∧ SubR (nth zs i.toNat).1 (nth zs i.toNat).2 t.1 t.2 x.1 x.2
theorem FoldS.lt {R : Cpx → Cpx → Cpx → Prop} {zs : List Cpx} {i : Nat} {s : Cpx} (hs : s.1 < 2 ^ 64 ∧ s.2 < 2 ^ 64) (hR : ∀ y d x, R y d x → x.1 < 2 ^ 64 ∧ x.2 < 2 ^ 64) : ∀ {k : Nat} {x : Cpx}, FoldS R zs i s k x → x.1 < 2 ^ 64 ∧ x.2 < 2 ^ 64
  | 0, _, h => by subst h; exact hs
  | _ + 1, _, ⟨_, h, .inl ⟨_, e⟩⟩ => by subst e; exact FoldS.lt hs hR h
  | _ + 1, _, ⟨_, _, .inr ⟨_, _, _, h⟩⟩ => hR _ _ _ h
theorem MulS.lt (y d x : Cpx) (h : MulS y d x) : x.1 < 2 ^ 64 ∧ x.2 < 2 ^ 64 := ⟨And.left (a := x.1 < 2 ^ 64) ⟨(show MulR y.1 y.2 d.1 d.2 x.1 x.2 from h).lt.1, trivial⟩, (show MulR y.1 y.2 d.1 d.2 x.1 x.2 from h).lt.2⟩
theorem InvS.lt (y d x : Cpx) (h : InvS y d x) : x.1 < 2 ^ 64 ∧ x.2 < 2 ^ 64 := by obtain ⟨q, _, h⟩ := h; exact ⟨h.1.lt, h.2.lt⟩
theorem fit_ok {n m : Nat} {i : Int} (h : fitCode n m i = 0) : 2 ≤ n ∧ n ≤ 65 ∧ m + 1 = n ∧ 0 ≤ i ∧ i < m := by
  unfold fitCode at h
  split at h
  · exact absurd h (by decide)
  split at h
  · exact absurd h (by decide)
  omega
theorem bel_n {w w' : World} (h : Below w.heap.size w w') (n : Nat) : Below w.heap.size w (w'.drewN n) := below_drewN h n
set_option maxRecDepth 100000 in
set_option maxHeartbeats 4000000 in
theorem weier_any (cs zs : List Cpx) (i : Int) (v u : Value) (w : World) (hv : Sl w v cs) (hu : Sl w u zs) (ok : CsOk cs) (okz : CsOk zs) :
    Calls Tryz.prog 34 #[v, u, .int .i64 i] w (StepRet (fitCode cs.length zs.length i) (WeierR cs zs i) w) := by
  obtain ⟨a, cap, rfl, hs⟩ := slShape hv
  obtain ⟨a', cap', rfl, hs'⟩ := slShape hu
  by_cases hf : fitCode cs.length zs.length i = 0
  · rw [hf]
    obtain ⟨n2, n65, hm, hi0, him⟩ := fit_ok hf
    obtain ⟨b, off, rfl, hcap, hc⟩ := hs (by omega)
    obtain ⟨b', off', rfl, hcap', hc'⟩ := hs' (by omega)
    obtain ⟨k, rfl⟩ := Int.eq_ofNat_of_zero_le hi0
    have hk : k < zs.length := by omega
    have FIT := Lib.hid (hf ▸ fit_any (some ⟨b, off, none⟩) (some ⟨b', off', none⟩) cs.length cap zs.length cap' (k : Nat) w)
    have HF := Lib.hid (fun s => fold_mul zs k s b' off' cap' w hk (by omega) hcap' hc')
    have HV := Lib.hid (fun n => hval_any cs (nth zs k) b off cap (w.drewN n) (nthOk okz k) n2 n65 hcap hc)
    have LZ := Lib.hid (show b' < w.heap.size from World.block_lt_of_cell? w _ (hc' k hk))
    have CK := Lib.hid (hc' k hk)
    have OKC := Lib.hid ok
    have hl := hc (cs.length - 1) (by omega)
    obtain ⟨l, hll⟩ : ∃ l, nth cs (cs.length - 1) = l := ⟨_, rfl⟩
    rw [hll] at hl
    have LL := Lib.hid hll
    have w1 : IntKind.i64.wrap ((cs.length : Int) - 1) = ((cs.length - 1 : Nat) : Int) := by rw [show ((cs.length - 1 : Nat) : Int) = (cs.length : Int) - 1 by omega]; exact IntWalk.i64_in _ (by omega)
    have nl : ((cs.length - 1 : Nat) : Int) < (cs.length : Int) := by omega
    have nk : (k : Int) < (zs.length : Int) := by omega
    have nc : (cs.length : Int) ≤ (cap : Int) := by omega
    have nc' : (zs.length : Int) ≤ (cap' : Int) := by omega
    obtain ⟨zk, hzk⟩ : ∃ z, nth zs k = z := ⟨_, rfl⟩
    rw [hzk] at CK HV
    have ZK := Lib.hid hzk
    obtain ⟨a1, a2⟩ := zk
    obtain ⟨l1, l2⟩ := l
    have hl3 : w.cell? ⟨b, off + (cs.length - 1), none⟩ = some (.complex .f64 l1 l2) := hl
    have CN := Lib.hid (show ∀ n, (w.drewN n).cell? ⟨b', off' + k, none⟩ = some (.complex .f64 a1 a2) from fun _ => CK.out)
    clear hv hu hs hs' hf n2 n65 hm hi0 him hcap hc hcap' hc' hk okz ok hl hll hzk
    go_enter Tryz.func34, Tryz.ntmps34
    go_wp2_with fail
    refine FIT.out.mono ?_
    intro e w1 h1
    rcases h1 with ⟨rfl, rfl⟩
    go_wp2_with fail
    refine (HF.out (l1, l2)).mono ?_
    intro e w2 h2
    rcases h2 with ⟨d, n, hd, rfl, rfl⟩
    have FD := Lib.hid hd
    have hck : (w.drewN n).cell? ⟨b', off' + k, none⟩ = some (.complex .f64 a1 a2) := CN.out n
    have LD := Lib.hid (FoldS.lt (by rw [← LL.out]; exact nthOk OKC.out _) MulS.lt hd)
    obtain ⟨d1, d2⟩ := d
    clear hd hl3
    go_wp2_with fail
    refine (HV.out n).mono ?_
    intro e w3 h3
    rcases h3 with ⟨x, rfl, hx, hb⟩
    have VX := Lib.hid hx
    have B3 := Lib.hid (show Below w.heap.size w w3 from (below_drewN (Below.refl _ w) n).trans hb)
    have hck3 : w3.cell? ⟨b', off' + k, none⟩ = some (.complex .f64 a1 a2) := (B3.out.cell LZ.out).trans CK.out
    obtain ⟨x1, x2⟩ := x
    clear hx hb hck
    go_wp2_with fail
    go_region_law (first | (go_simp; go_at_call 23; (with_reducible refine (div_any x1 x2 d1 d2 LD.out.1 LD.out.2 _).mono ?_); rintro e w4 ⟨q1, q2, n4, r4, rfl, rfl⟩; have R4 := Lib.hid r4; clear r4) | (go_simp; go_at_call 17; (with_reducible refine (sub_any a1 a2 q1 q2 _).mono ?_); rintro e w5 ⟨y1, y2, n5, r5, rfl, rfl⟩; have R5 := Lib.hid r5; clear r5))
    all_goals
      go_wp2_with fail
      go_ret2
      exact ⟨(y1, y2), rfl, fun _ => ⟨(d1, d2), (x1, x2), (q1, q2), by rw [LL.out]; exact FD.out, by show ValN cs (nth zs k) _ _; rw [ZK.out]; exact VX.out, R4.out, by show SubR (nth zs k).1 (nth zs k).2 _ _ _ _; rw [ZK.out]; exact R5.out⟩, fun h => absurd rfl h, below_drewN B3.out _⟩
  · obtain ⟨c, hc⟩ : ∃ c, fitCode cs.length zs.length i = c := ⟨_, rfl⟩
    have FIT := Lib.hid (hc ▸ fit_any a a' cs.length cap zs.length cap' i w)
    rw [hc] at hf ⊢
    have HC := Lib.hid hf
    have c0 : (c == 0) = false := beq_eq_false_iff_ne.2 hf
    clear hv hu hs hs' ok okz hc hf
    go_enter Tryz.func34, Tryz.ntmps34
    go_wp2_with fail
    refine FIT.out.mono ?_
    intro e w1 h1
    rcases h1 with ⟨rfl, rfl⟩
    go_wp2_with fail
    go_ret2
    exact ⟨(0, 0), rfl, fun h => absurd h HC.out, fun _ => rfl, Below.refl _ _⟩
set_option maxRecDepth 100000 in
set_option maxHeartbeats 8000000 in
theorem aberth_any (cs zs : List Cpx) (i : Int) (v u : Value) (w : World) (hv : Sl w v cs) (hu : Sl w u zs) (ok : CsOk cs) (okz : CsOk zs) :
    Calls Tryz.prog 35 #[v, u, .int .i64 i] w (StepRet (fitCode cs.length zs.length i) (AberthR cs zs i) w) := by
  obtain ⟨a, cap, rfl, hs⟩ := slShape hv
  obtain ⟨a', cap', rfl, hs'⟩ := slShape hu
  by_cases hf : fitCode cs.length zs.length i = 0
  · rw [hf]
    obtain ⟨n2, n65, hm, hi0, him⟩ := fit_ok hf
    obtain ⟨b, off, rfl, hcap, hc⟩ := hs (by omega)
    obtain ⟨b', off', rfl, hcap', hc'⟩ := hs' (by omega)
    obtain ⟨k, rfl⟩ := Int.eq_ofNat_of_zero_le hi0
    have hk : k < zs.length := by omega
    have FIT := Lib.hid (hf ▸ fit_any (some ⟨b, off, none⟩) (some ⟨b', off', none⟩) cs.length cap zs.length cap' (k : Nat) w)
    have LZ := Lib.hid (show b' < w.heap.size from World.block_lt_of_cell? w _ (hc' k hk))
    have CZ := Lib.hid hc'
    have HF := Lib.hid (fun W (hW : Below w.heap.size w W) => fold_inv zs k (0, 0) b' off' cap' W hk (by omega) hcap' (Cells.below CZ.out hW))
    have HV := Lib.hid (hbothv_any cs (nth zs k) b off cap w (nthOk okz k) n2 n65 hcap hc)
    have OKC := Lib.hid ok
    have nk : (k : Int) < (zs.length : Int) := by omega
    have nc' : (zs.length : Int) ≤ (cap' : Int) := by omega
    have CK := Lib.hid (hc' k hk)
    obtain ⟨zk, hzk⟩ : ∃ z, nth zs k = z := ⟨_, rfl⟩
    rw [hzk] at CK HV
    have ZK := Lib.hid hzk
    obtain ⟨a1, a2⟩ := zk
    have hck : w.cell? ⟨b', off' + k, none⟩ = some (.complex .f64 a1 a2) := CK.out
    clear hv hu hs hs' hf n2 n65 hm hi0 him hcap hc hcap' hc' hk okz ok hzk
    go_enter Tryz.func35, Tryz.ntmps35
    go_wp2_with fail
    refine FIT.out.mono ?_
    intro e w1 h1
    rcases h1 with ⟨rfl, rfl⟩
    go_wp2_with fail
    refine HV.out.mono ?_
    intro e w3 h3
    rcases h3 with ⟨x, s, rfl, hx, hb⟩
    have VX := Lib.hid hx
    have B3 := Lib.hid hb
    have LS := Lib.hid (hx.lt OKC.out)
    obtain ⟨x1, x2⟩ := x
    obtain ⟨s1, s2⟩ := s
    clear hx hb hck
    go_wp2_with fail
    refine (div_any x1 x2 s1 s2 LS.out.2.1 LS.out.2.2 _).mono ?_
    intro e w4 h4
    rcases h4 with ⟨q1, q2, n4, r4, rfl, rfl⟩
    have R4 := Lib.hid r4
    have B4 := Lib.hid (below_drewN B3.out n4)
    clear r4
    go_wp2_with fail
    refine (HF.out _ B4.out).mono ?_
    intro e w5 h5
    rcases h5 with ⟨t, n5, r5, rfl, rfl⟩
    have R5 := Lib.hid r5
    have B5 := Lib.hid (below_drewN B3.out (n4 + n5))
    have hck5 : w3.cell? ⟨b', off' + k, none⟩ = some (.complex .f64 a1 a2) := (B3.out.cell LZ.out).trans CK.out
    obtain ⟨t1, t2⟩ := t
    clear r5
    go_wp2_with fail
    go_region_law (first
      | (go_simp; go_at_call 19; (with_reducible refine (mul_any q1 q2 t1 t2 _).mono ?_); rintro e w6 ⟨p1, p2, n6, r6, rfl, rfl⟩; have R6 := Lib.hid r6; clear r6)
      | (go_simp; go_at_call 17; (with_reducible refine (sub_any 4607182418800017408 0 p1 p2 _).mono ?_); rintro e w7 ⟨o1, o2, n7, r7, rfl, rfl⟩; have R7 := Lib.hid r7; have LO := Lib.hid (And.intro r7.1.lt r7.2.lt); clear r7)
      | (go_simp; go_at_call 23; (with_reducible refine (div_any q1 q2 o1 o2 LO.out.1 LO.out.2 _).mono ?_); rintro e w8 ⟨g1, g2, n8, r8, rfl, rfl⟩; have R8 := Lib.hid r8; clear r8)
      | (go_simp; go_at_call 17; (with_reducible refine (sub_any a1 a2 g1 g2 _).mono ?_); rintro e w9 ⟨y1, y2, n9, r9, rfl, rfl⟩; have R9 := Lib.hid r9; clear r9))
    all_goals
      go_wp2_with fail
      go_ret2
      exact ⟨(y1, y2), rfl, fun _ => ⟨(x1, x2), (s1, s2), (q1, q2), (t1, t2), (p1, p2), (o1, o2), (g1, g2), by show BothN cs (nth zs k) _ _ _; rw [ZK.out]; exact VX.out, R4.out, R5.out, R6.out, R7.out, R8.out, by show SubR (nth zs k).1 (nth zs k).2 _ _ _ _; rw [ZK.out]; exact R9.out⟩, fun h => absurd rfl h, below_drewN B3.out _⟩
  · obtain ⟨c, hc⟩ : ∃ c, fitCode cs.length zs.length i = c := ⟨_, rfl⟩
    have FIT := Lib.hid (hc ▸ fit_any a a' cs.length cap zs.length cap' i w)
    rw [hc] at hf ⊢
    have HC := Lib.hid hf
    have c0 : (c == 0) = false := beq_eq_false_iff_ne.2 hf
    clear hv hu hs hs' ok okz hc hf
    go_enter Tryz.func35, Tryz.ntmps35
    go_wp2_with fail
    refine FIT.out.mono ?_
    intro e w1 h1
    rcases h1 with ⟨rfl, rfl⟩
    go_wp2_with fail
    go_ret2
    exact ⟨(0, 0), rfl, fun h => absurd h HC.out, fun _ => rfl, Below.refl _ _⟩
end Go.Proofs.YtokmommlabdcdaaGreat
set_option linter.unusedVariables false
set_option linter.unusedSimpArgs false
namespace Go.Proofs.YtokmommlabdcdaaGreat
open Wd Fl Go.RowKit
def stepCode (way : Int) (n m : Nat) (i : Int) : Int := if fitCode n m i = 0 then (if way = 1 ∨ way = 2 ∨ way = 3 then 0 else 181) else fitCode n m i
def WayR (way : Int) (cs zs : List Cpx) (i : Int) (x : Cpx) : Prop := (way = 1 ∧ NewtonR cs (nth zs i.toNat) x) ∨ (way = 2 ∧ WeierR cs zs i x) ∨ (way = 3 ∧ AberthR cs zs i x)
theorem newtonCode_ok {n : Nat} (h : 2 ≤ n) (g : n ≤ 65) : newtonCode n = 0 := if_neg (by omega)
theorem StepRet.mono {bad : Int} {R S : Cpx → Prop} {w w' : World} {e : Ending} (h : StepRet bad R w e w') (f : ∀ x, R x → S x) : StepRet bad S w e w' := by
  obtain ⟨x, e, h0, h1, hb⟩ := h
  exact ⟨x, e, fun hz => f _ (h0 hz), h1, hb⟩
set_option maxRecDepth 100000 in
set_option maxHeartbeats 4000000 in
theorem step1_any (cs zs : List Cpx) (k : Nat) (v : Value) (b' off' cap' : Nat) (w : World) (hv : Sl w v cs) (hc' : Cells w b' off' zs) (hcap : zs.length ≤ cap') (hk : k < zs.length) (n2 : 2 ≤ cs.length) (n65 : cs.length ≤ 65) (ok : CsOk cs) (okz : CsOk zs) :
    Calls Tryz.prog 70 #[v, .slice (some ⟨b', off', none⟩) zs.length cap', .int .i64 (k : Nat)] w (StepRet 0 (NewtonR cs (nth zs k)) w) := by
  have HN := Lib.hid ((newtonCode_ok n2 n65) ▸ newton_any cs (nth zs k) v w hv ok (nthOk okz k))
  have nk : (k : Int) < (zs.length : Int) := by omega
  have nc' : (zs.length : Int) ≤ (cap' : Int) := by omega
  have CK := Lib.hid (hc' k hk)
  obtain ⟨zk, hzk⟩ : ∃ z, nth zs k = z := ⟨_, rfl⟩
  rw [hzk] at CK HN ⊢
  obtain ⟨a1, a2⟩ := zk
  have hck : w.cell? ⟨b', off' + k, none⟩ = some (.complex .f64 a1 a2) := CK.out
  clear hv hc' hcap hk n2 n65 ok okz hzk
  go_enter Tryz.func70, Tryz.ntmps70
  go_wp2_with fail
  refine HN.out.mono ?_
  intro e w1 h1
  rcases h1 with ⟨x, rfl, h0, h1, hb⟩
  have HX := Lib.hid (And.intro h0 (And.intro h1 hb))
  clear h0 h1 hb hck
  go_wp2_with fail
  go_ret2
  exact ⟨x, rfl, fun _ => HX.out.1 trivial, fun h => absurd rfl h, HX.out.2.2⟩
set_option maxRecDepth 100000 in
set_option maxHeartbeats 8000000 in
theorem step_any (way : Int) (cs zs : List Cpx) (i : Int) (v u : Value) (w : World) (hv : Sl w v cs) (hu : Sl w u zs) (ok : CsOk cs) (okz : CsOk zs) :
    Calls Tryz.prog 36 #[.int .i64 way, v, u, .int .i64 i] w (StepRet (stepCode way cs.length zs.length i) (WayR way cs zs i) w) := by
  by_cases hf : fitCode cs.length zs.length i = 0
  · have AB := Lib.hid (hf ▸ aberth_any cs zs i v u w hv hu ok okz)
    have WE := Lib.hid (hf ▸ weier_any cs zs i v u w hv hu ok okz)
    obtain ⟨n2, n65, hm, hi0, him⟩ := fit_ok hf
    have FITN := Lib.hid (fun a a' cap cap' => hf ▸ fit_any a a' cs.length cap zs.length cap' i w)
    have NE := Lib.hid (show ∃ b' off' cap', u = .slice (some ⟨b', off', none⟩) zs.length cap' ∧ Calls Tryz.prog 70 #[v, u, .int .i64 i] w (StepRet 0 (NewtonR cs (nth zs i.toNat)) w) by
      obtain ⟨a', cap', rfl, hs'⟩ := slShape hu
      obtain ⟨b', off', rfl, hcap', hc'⟩ := hs' (by omega)
      obtain ⟨k, rfl⟩ := Int.eq_ofNat_of_zero_le hi0
      exact ⟨b', off', cap', rfl, step1_any cs zs k v b' off' cap' w hv hc' hcap' (by omega) n2 n65 ok okz⟩)
    obtain ⟨a, cap, rfl, hs⟩ := slShape hv
    obtain ⟨b', off', cap', rfl, hne⟩ := NE.out
    clear NE
    have NE := Lib.hid hne
    have FIT := Lib.hid (FITN.out a (some ⟨b', off', none⟩) cap cap')
    clear FITN hne hv hu ok okz hs n2 n65 hm hi0 him
    by_cases w1 : way = 1
    · subst w1
      have hs : stepCode 1 cs.length zs.length i = 0 := by unfold stepCode; rw [if_pos hf, if_pos (by decide)]
      rw [hs]
      clear hs hf
      go_enter Tryz.func36, Tryz.ntmps36
      go_wp2_with fail
      refine FIT.out.mono ?_
      intro e w1 h1
      rcases h1 with ⟨rfl, rfl⟩
      go_wp2_with fail
      refine NE.out.mono ?_
      intro e w1 h1
      rcases h1 with ⟨x, rfl, h0, h1, hb⟩
      have HX := Lib.hid (And.intro h0 (And.intro h1 hb))
      clear h0 h1 hb
      go_wp2_with fail
      go_ret2
      exact ⟨x, rfl, fun hz => have h := HX.out.1 trivial; .inl ⟨rfl, h⟩, fun h => absurd rfl h, HX.out.2.2⟩
    by_cases w2 : way = 2
    · subst w2
      have hs : stepCode 2 cs.length zs.length i = 0 := by unfold stepCode; rw [if_pos hf, if_pos (by decide)]
      rw [hs]
      clear hs hf w1
      go_enter Tryz.func36, Tryz.ntmps36
      go_wp2_with fail
      refine FIT.out.mono ?_
      intro e w1 h1
      rcases h1 with ⟨rfl, rfl⟩
      go_wp2_with fail
      refine WE.out.mono ?_
      intro e w1 h1
      rcases h1 with ⟨x, rfl, h0, h1, hb⟩
      have HX := Lib.hid (And.intro h0 (And.intro h1 hb))
      clear h0 h1 hb
      go_wp2_with fail
      go_ret2
      exact ⟨x, rfl, fun hz => have h := HX.out.1 trivial; .inr (.inl ⟨rfl, h⟩), fun h => absurd rfl h, HX.out.2.2⟩
    by_cases w3 : way = 3
    · subst w3
      have hs : stepCode 3 cs.length zs.length i = 0 := by unfold stepCode; rw [if_pos hf, if_pos (by decide)]
      rw [hs]
      clear hs hf w1 w2
      go_enter Tryz.func36, Tryz.ntmps36
      go_wp2_with fail
      refine FIT.out.mono ?_
      intro e w1 h1
      rcases h1 with ⟨rfl, rfl⟩
      go_wp2_with fail
      refine AB.out.mono ?_
      intro e w1 h1
      rcases h1 with ⟨x, rfl, h0, h1, hb⟩
      have HX := Lib.hid (And.intro h0 (And.intro h1 hb))
      clear h0 h1 hb
      go_wp2_with fail
      go_ret2
      exact ⟨x, rfl, fun hz => have h := HX.out.1 trivial; .inr (.inr ⟨rfl, h⟩), fun h => absurd rfl h, HX.out.2.2⟩
    have hs : stepCode way cs.length zs.length i = 181 := by unfold stepCode; rw [if_pos hf, if_neg (by omega)]
    rw [hs]
    have e1 : (way == 1) = false := beq_eq_false_iff_ne.2 w1
    have e2 : (way == 2) = false := beq_eq_false_iff_ne.2 w2
    have e3 : (way == 3) = false := beq_eq_false_iff_ne.2 w3
    clear hs hf w1 w2 w3
    go_enter Tryz.func36, Tryz.ntmps36
    go_wp2_with fail
    refine FIT.out.mono ?_
    intro e w1 h1
    rcases h1 with ⟨rfl, rfl⟩
    go_wp2_with fail
    go_ret2
    exact ⟨(0, 0), rfl, fun h => absurd h (by decide), fun _ => rfl, Below.refl _ _⟩
  · obtain ⟨a, cap, rfl, hs⟩ := slShape hv
    obtain ⟨a', cap', rfl, hs'⟩ := slShape hu
    have hst : stepCode way cs.length zs.length i = fitCode cs.length zs.length i := if_neg hf
    rw [hst]
    obtain ⟨c, hc⟩ : ∃ c, fitCode cs.length zs.length i = c := ⟨_, rfl⟩
    have FIT := Lib.hid (hc ▸ fit_any a a' cs.length cap zs.length cap' i w)
    rw [hc] at hf ⊢
    have HC := Lib.hid hf
    have c0 : (c == 0) = false := beq_eq_false_iff_ne.2 hf
    clear hv hu hs hs' ok okz hc hf hst
    go_enter Tryz.func36, Tryz.ntmps36
    go_wp2_with fail
    refine FIT.out.mono ?_
    intro e w1 h1
    rcases h1 with ⟨rfl, rfl⟩
    go_wp2_with fail
    go_ret2
    exact ⟨(0, 0), rfl, fun h => absurd h HC.out, fun _ => rfl, Below.refl _ _⟩
end Go.Proofs.YtokmommlabdcdaaGreat
set_option linter.unusedVariables false
set_option linter.unusedSimpArgs false
namespace Go.Proofs.YtokmommlabdcdaaGreat
open Wd Fl Go.RowKit
set_option maxRecDepth 100000 in
set_option maxHeartbeats 4000000 in
theorem bad_any (a a' : Option Addr) (n cap m cap' : Nat) (i : Int) (w : World) :
    Calls Tryz.prog 71 #[.slice a n cap, .slice a' m cap', .int .i64 i] w fun e w' => e = .returned (.int .i64 (fitCode n m i)) ∧ w = w' := by
  by_cases h1 : n < 2
  · have hf : fitCode n m i = 180 := if_pos (.inl h1)
    rw [hf]
    have d1 : decide ((n : Int) < 2) = true := decide_eq_true (by omega)
    go_enter Tryz.func71, Tryz.ntmps71
    go_wp2_with fail
    go_ret
    exact ⟨rfl, rfl⟩
  have d1 : decide ((n : Int) < 2) = false := decide_eq_false (by omega)
  by_cases h2 : 65 < n
  · have hf : fitCode n m i = 180 := if_pos (.inr (.inl h2))
    rw [hf]
    have d2 : decide (65 < (n : Int)) = true := decide_eq_true (by omega)
    go_enter Tryz.func71, Tryz.ntmps71
    go_wp2_with fail
    go_ret
    exact ⟨rfl, rfl⟩
  have d2 : decide (65 < (n : Int)) = false := decide_eq_false (by omega)
  have w1 : IntKind.i64.wrap ((n : Int) - 1) = ((n - 1 : Nat) : Int) := by rw [show ((n - 1 : Nat) : Int) = (n : Int) - 1 by omega]; exact IntWalk.i64_in _ (by omega)
  by_cases h3 : m + 1 ≠ n
  · have hf : fitCode n m i = 180 := if_pos (.inr (.inr h3))
    rw [hf]
    have d3 : ((m : Int) == ((n - 1 : Nat) : Int)) = false := by rw [beq_eq_false_iff_ne]; omega
    clear h1 h2 h3 hf
    go_enter Tryz.func71, Tryz.ntmps71
    go_wp2_with fail
    go_ret
    exact ⟨rfl, rfl⟩
  have d3 : ((m : Int) == ((n - 1 : Nat) : Int)) = true := by rw [beq_iff_eq]; omega
  have hF : ¬ (n < 2 ∨ 65 < n ∨ m + 1 ≠ n) := by omega
  by_cases h4 : i < 0
  · have hf : fitCode n m i = 182 := by unfold fitCode; rw [if_neg hF, if_pos (.inl h4)]
    rw [hf]
    have d4 : decide (i < 0) = true := decide_eq_true h4
    clear h1 h2 h3 h4 hf hF
    go_enter Tryz.func71, Tryz.ntmps71
    go_wp2_with fail
    go_ret
    exact ⟨rfl, rfl⟩
  have d4 : decide (i < 0) = false := decide_eq_false h4
  by_cases h5 : (m : Int) ≤ i
  · have hf : fitCode n m i = 182 := by unfold fitCode; rw [if_neg hF, if_pos (.inr h5)]
    rw [hf]
    have d5 : decide ((m : Int) ≤ i) = true := decide_eq_true h5
    clear h1 h2 h3 h4 h5 hf hF
    go_enter Tryz.func71, Tryz.ntmps71
    go_wp2_with fail
    go_ret
    exact ⟨rfl, rfl⟩
  have d5 : decide ((m : Int) ≤ i) = false := decide_eq_false h5
  have hf : fitCode n m i = 0 := by unfold fitCode; rw [if_neg hF, if_neg (by omega)]
  rw [hf]
  clear h1 h2 h3 h4 h5 hf hF
  go_enter Tryz.func71, Tryz.ntmps71
  go_wp2_with fail
  go_ret
  exact ⟨rfl, rfl⟩
set_option maxRecDepth 100000 in
set_option maxHeartbeats 4000000 in
theorem rnewton_any (cs : List Cpx) (z : Cpx) (v : Value) (w : World) (hv : Sl w v cs) (ok : CsOk cs) (hz : z.1 < 2 ^ 64 ∧ z.2 < 2 ^ 64) :
    Calls Tryz.prog 32 #[v, .complex .f64 z.1 z.2] w (StepRet (newtonCode cs.length) (NewtonR cs z) w) := by
  obtain ⟨a, cap, rfl, hs⟩ := slShape hv
  by_cases h1 : cs.length < 2
  · have hf : newtonCode cs.length = 180 := if_pos (.inl h1)
    rw [hf]
    have d1 : decide ((cs.length : Int) < 2) = true := decide_eq_true (by omega)
    clear hv ok hz hs hf h1
    go_enter Tryz.func32, Tryz.ntmps32
    go_wp2_with fail
    go_ret2
    exact ⟨(0, 0), rfl, fun h => absurd h (by decide), fun _ => rfl, Below.refl _ _⟩
  have d1 : decide ((cs.length : Int) < 2) = false := decide_eq_false (by omega)
  by_cases h2 : 65 < cs.length
  · have hf : newtonCode cs.length = 180 := if_pos (.inr h2)
    rw [hf]
    have d2 : decide (65 < (cs.length : Int)) = true := decide_eq_true (by omega)
    clear hv ok hz hs hf h1 h2
    go_enter Tryz.func32, Tryz.ntmps32
    go_wp2_with fail
    go_ret2
    exact ⟨(0, 0), rfl, fun h => absurd h (by decide), fun _ => rfl, Below.refl _ _⟩
  have d2 : decide (65 < (cs.length : Int)) = false := decide_eq_false (by omega)
  have hf : newtonCode cs.length = 0 := by unfold newtonCode; rw [if_neg (by omega)]
  rw [hf]
  obtain ⟨b, off, rfl, hcap, hc⟩ := hs (by omega)
  have HB := Lib.hid (rboth_any cs z b off cap w hz (by omega) (by omega) hcap hc ok)
  have OK := Lib.hid ok
  obtain ⟨z1, z2⟩ := z
  have Z1 := Lib.hid hz.1
  have Z2 := Lib.hid hz.2
  clear hv ok hz hs hf h1 h2 hcap hc
  go_enter Tryz.func32, Tryz.ntmps32
  go_wp2_with fail
  refine HB.out.mono ?_
  intro e w1 h1
  rcases h1 with ⟨v, s, rfl, hN, hb⟩
  have NB := Lib.hid hN
  have B1 := Lib.hid hb
  clear hN hb
  have LV := Lib.hid (NB.out.lt OK.out)
  obtain ⟨v1, v2⟩ := v
  obtain ⟨s1, s2⟩ := s
  go_wp2_with fail
  refine (refdiv_any v1 v2 s1 s2 w1 LV.out.1.1 LV.out.1.2 LV.out.2.1 LV.out.2.2).mono ?_
  intro e w2 h2
  rcases h2 with ⟨q1, q2, hd, rfl, hb⟩
  have DQ := Lib.hid hd
  have B2 := Lib.hid (B1.out.trans (hb.mono B1.out.size))
  clear hd hb
  go_wp2_with fail
  refine (refsub_any z1 z2 q1 q2 _ Z1.out Z2.out DQ.out.lt.1 DQ.out.lt.2).mono ?_
  intro e w3 h3
  rcases h3 with ⟨x1, x2, hd, rfl, hb⟩
  have SX := Lib.hid hd
  have B3 := Lib.hid (B2.out.trans (hb.mono B2.out.size))
  clear hd hb
  go_wp2_with fail
  go_ret2
  exact ⟨(x1, x2), rfl, fun _ => ⟨(v1, v2), (s1, s2), (q1, q2), NB.out, DQ.out, SX.out⟩, fun h => absurd rfl h, B3.out⟩
end Go.Proofs.YtokmommlabdcdaaGreat
set_option linter.unusedVariables false
set_option linter.unusedSimpArgs false
namespace Go.Proofs.YtokmommlabdcdaaGreat
open Wd Fl Go.RowKit
def RFold (R : Cpx → Cpx → Cpx → Prop) (zs : List Cpx) (i : Nat) (s : Cpx) (w : World) (sd si : Value) (wr : World) : Prop := ∃ (t : Nat) (x : Cpx), t ≤ zs.length ∧ sd = .complex .f64 x.1 x.2 ∧ si = .int .i64 (t : Int) ∧ FoldS R zs i s t x ∧ (x.1 < 2 ^ 64 ∧ x.2 < 2 ^ 64) ∧ Below w.heap.size w wr
set_option maxRecDepth 100000 in
set_option maxHeartbeats 8000000 in
theorem rweier_any (cs zs : List Cpx) (i : Int) (v u : Value) (w : World) (hv : Sl w v cs) (hu : Sl w u zs) (ok : CsOk cs) (okz : CsOk zs) :
    Calls Tryz.prog 37 #[v, u, .int .i64 i] w (StepRet (fitCode cs.length zs.length i) (WeierR cs zs i) w) := by
  obtain ⟨a, cap, rfl, hs⟩ := slShape hv
  obtain ⟨a', cap', rfl, hs'⟩ := slShape hu
  by_cases hf : fitCode cs.length zs.length i = 0
  · rw [hf]
    obtain ⟨n2, n65, hm, hi0, him⟩ := fit_ok hf
    obtain ⟨b, off, rfl, hcap, hc⟩ := hs (by omega)
    obtain ⟨b', off', rfl, hcap', hc'⟩ := hs' (by omega)
    obtain ⟨k, rfl⟩ := Int.eq_ofNat_of_zero_le hi0
    have hk : k < zs.length := by omega
    have FIT := Lib.hid (hf ▸ bad_any (some ⟨b, off, none⟩) (some ⟨b', off', none⟩) cs.length cap zs.length cap' (k : Nat) w)
    have N64 := Lib.hid (show zs.length ≤ 64 by omega)
    have CZ := Lib.hid hc'
    have OKZ := Lib.hid okz
    have OKC := Lib.hid ok
    have HV := Lib.hid (fun W (hW : Below w.heap.size w W) => rboth_any cs (nth zs k) b off cap W (nthOk okz k) n2 n65 hcap (Cells.below hc hW) ok)
    have LZ := Lib.hid (show b' < w.heap.size from World.block_lt_of_cell? w _ (hc' k hk))
    have CK := Lib.hid (hc' k hk)
    have nk : (k : Int) < (zs.length : Int) := by omega
    have nc' : (zs.length : Int) ≤ (cap' : Int) := by omega
    have hl := hc (cs.length - 1) (by omega)
    obtain ⟨l, hll⟩ : ∃ l, nth cs (cs.length - 1) = l := ⟨_, rfl⟩
    rw [hll] at hl
    have LL := Lib.hid hll
    have LLT := Lib.hid (show l.1 < 2 ^ 64 ∧ l.2 < 2 ^ 64 by rw [← hll]; exact nthOk ok _)
    have w1 : IntKind.i64.wrap ((cs.length : Int) - 1) = ((cs.length - 1 : Nat) : Int) := by rw [show ((cs.length - 1 : Nat) : Int) = (cs.length : Int) - 1 by omega]; exact IntWalk.i64_in _ (by omega)
    have nl : ((cs.length - 1 : Nat) : Int) < (cs.length : Int) := by omega
    have nc : (cs.length : Int) ≤ (cap : Int) := by omega
    obtain ⟨zk, hzk⟩ : ∃ z, nth zs k = z := ⟨_, rfl⟩
    rw [hzk] at CK HV
    have AL := Lib.hid (show zk.1 < 2 ^ 64 ∧ zk.2 < 2 ^ 64 by rw [← hzk]; exact nthOk okz k)
    have ZK := Lib.hid hzk
    obtain ⟨a1, a2⟩ := zk
    have CN := Lib.hid (show ∀ W, Below w.heap.size w W → W.cell? ⟨b', off' + k, none⟩ = some (.complex .f64 a1 a2) from fun W hW => (hW.cell LZ.out).trans CK.out)
    obtain ⟨l1, l2⟩ := l
    have hl3 : w.cell? ⟨b, off + (cs.length - 1), none⟩ = some (.complex .f64 l1 l2) := hl
    clear hv hu hs hs' hf n2 n65 hm hi0 him hcap hc hcap' hc' hk okz ok hzk hl hll
    go_enter Tryz.func37, Tryz.ntmps37
    go_wp2_with fail
    refine FIT.out.mono ?_
    intro e w1 h1
    rcases h1 with ⟨rfl, rfl⟩
    go_wp2_with fail
    go_loopw [9, 10] (fun sd si wr => RFold MulS zs k (l1, l2) w sd si wr) (fun _ si _ => zs.length - (intOf si).toNat)
    case atStart => exact ⟨0, (l1, l2), Nat.zero_le _, rfl, rfl, rfl, LLT.out, Below.refl _ _⟩
    case round =>
      obtain ⟨t, x, ht, rfl, rfl, hF, hx, hB⟩ := hrel
      have HFF := Lib.hid hF
      have HT := Lib.hid ht
      have XL := Lib.hid hx
      have HBB := Lib.hid hB
      have ci : wr.cell? ⟨b', off' + k, none⟩ = some (.complex .f64 a1 a2) := CN.out wr hB
      obtain ⟨x1, x2⟩ := x
      clear hF ht hx hB hl3
      by_cases hlt : t < zs.length
      · have hlt' : decide ((t : Int) < (zs.length : Int)) = true := decide_eq_true (by omega)
        have hlt2 : (t : Int) < (zs.length : Int) := by omega
        have hw1 : IntKind.i64.wrap ((t : Int) + 1) = ((t + 1 : Nat) : Int) := by have := N64.out; rw [show ((t + 1 : Nat) : Int) = (t : Int) + 1 by omega]; exact IntWalk.i64_in _ (by omega)
        have ck0 : wr.cell? ⟨b', off' + t, none⟩ = some (cv (nth zs t)) := Cells.below CZ.out HBB.out t hlt
        obtain ⟨c, hcc⟩ : ∃ c, nth zs t = c := ⟨_, rfl⟩
        rw [hcc] at ck0
        have KC := Lib.hid hcc
        have CL := Lib.hid (show c.1 < 2 ^ 64 ∧ c.2 < 2 ^ 64 by rw [← hcc]; exact nthOk OKZ.out t)
        obtain ⟨c1, c2⟩ := c
        have ck : wr.cell? ⟨b', off' + t, none⟩ = some (.complex .f64 c1 c2) := ck0
        clear hcc ck0
        by_cases hki : t = k
        · have hki' : ((t : Int) == (k : Int)) = true := by rw [beq_iff_eq]; omega
          have KI := Lib.hid hki
          clear hki
          go_wp2_with fail
          go_roundw
          case rel => exact ⟨t + 1, (x1, x2), by omega, rfl, rfl, ⟨(x1, x2), HFF.out, .inl ⟨KI.out, rfl⟩⟩, XL.out, HBB.out⟩
          case measure => simp [intOf]; omega
        · have hki' : ((t : Int) == (k : Int)) = false := by rw [beq_eq_false_iff_ne]; omega
          have KI := Lib.hid hki
          clear hki
          go_wp2_with fail
          go_region_law (first
            | (go_simp; go_at_call 18; (with_reducible refine (refsub_any a1 a2 c1 c2 _ AL.out.1 AL.out.2 CL.out.1 CL.out.2).mono ?_); intro e wd h3; rcases h3 with ⟨y1, y2, r3, he, hb⟩; subst he; have R3 := Lib.hid r3; have Y3 := Lib.hid (And.intro r3.1.lt r3.2.lt); have B3 := Lib.hid (HBB.out.drew.trans (hb.mono HBB.out.drew.size)); clear r3 hb)
            | (go_simp; go_at_call 20; (with_reducible refine (refmul_any x1 x2 y1 y2 _ XL.out.1 XL.out.2 Y3.out.1 Y3.out.2).mono ?_); intro e we h4; rcases h4 with ⟨g1, g2, r5, he, hb⟩; subst he; have R5 := Lib.hid r5; have GL := Lib.hid (And.intro r5.lt.1 r5.lt.2); have B5 := Lib.hid (B3.out.trans (hb.mono B3.out.size)); clear r5 hb))
          all_goals
            go_wp2_with fail
            go_roundw
            case rel => exact ⟨t + 1, (g1, g2), by have := HT.out; omega, rfl, rfl, ⟨(x1, x2), HFF.out, .inr ⟨KI.out, (y1, y2), by rw [ZK.out, KC.out]; exact R3.out, R5.out⟩⟩, GL.out, B5.out⟩
            case measure => simp [intOf]; omega
      · obtain rfl : t = zs.length := by have := HT.out; omega
        have hge : decide ((zs.length : Int) < (zs.length : Int)) = false := decide_eq_false (by omega)
        clear hlt
        go_wp2_with fail
        refine (HV.out wr HBB.out).mono ?_
        intro e w3 h3
        rcases h3 with ⟨o, s, rfl, hx, hb⟩
        have VX := Lib.hid hx.val
        have LS := Lib.hid (hx.lt OKC.out)
        have B3 := Lib.hid (HBB.out.trans (hb.mono HBB.out.size))
        obtain ⟨o1, o2⟩ := o
        obtain ⟨s1, s2⟩ := s
        have ck3 : w3.cell? ⟨b', off' + k, none⟩ = some (.complex .f64 a1 a2) := CN.out w3 B3.out
        clear hx hb ci
        go_wp2_with fail
        go_region_law (first
          | (go_simp; go_at_call 24; (with_reducible refine (refdiv_any o1 o2 x1 x2 _ LS.out.1.1 LS.out.1.2 XL.out.1 XL.out.2).mono ?_); intro e wd h4; rcases h4 with ⟨q1, q2, r4, he, hb⟩; subst he; have R4 := Lib.hid r4; have Q4 := Lib.hid (And.intro r4.lt.1 r4.lt.2); have B4 := Lib.hid (B3.out.drew.trans (hb.mono B3.out.drew.size)); have ck4 : wd.cell? ⟨b', off' + k, none⟩ = some (.complex .f64 a1 a2) := CN.out wd B4.out; clear r4 hb)
          | (go_simp; go_at_call 18; (with_reducible refine (refsub_any a1 a2 q1 q2 _ AL.out.1 AL.out.2 Q4.out.1 Q4.out.2).mono ?_); intro e we h5; rcases h5 with ⟨y1, y2, r5, he, hb⟩; subst he; have R5 := Lib.hid r5; have B5 := Lib.hid (B4.out.trans (hb.mono B4.out.size)); clear r5 hb))
        all_goals
          go_wp2_with fail
          go_ret2
          exact ⟨(y1, y2), rfl, fun _ => ⟨(x1, x2), (o1, o2), (q1, q2), by rw [LL.out]; exact HFF.out, by show ValN cs (nth zs k) _ _; rw [ZK.out]; exact VX.out, R4.out, by show SubR (nth zs k).1 (nth zs k).2 _ _ _ _; rw [ZK.out]; exact R5.out⟩, fun h => absurd rfl h, B5.out⟩
  · obtain ⟨c, hc⟩ : ∃ c, fitCode cs.length zs.length i = c := ⟨_, rfl⟩
    have FIT := Lib.hid (hc ▸ bad_any a a' cs.length cap zs.length cap' i w)
    rw [hc] at hf ⊢
    have HC := Lib.hid hf
    have c0 : (c == 0) = false := beq_eq_false_iff_ne.2 hf
    clear hv hu hs hs' ok okz hc hf
    go_enter Tryz.func37, Tryz.ntmps37
    go_wp2_with fail
    refine FIT.out.mono ?_
    intro e w1 h1
    rcases h1 with ⟨rfl, rfl⟩
    go_wp2_with fail
    go_ret2
    exact ⟨(0, 0), rfl, fun h => absurd h HC.out, fun _ => rfl, Below.refl _ _⟩
end Go.Proofs.YtokmommlabdcdaaGreat
set_option linter.unusedVariables false
set_option linter.unusedSimpArgs false
namespace Go.Proofs.YtokmommlabdcdaaGreat
open Wd Fl Go.RowKit
set_option maxRecDepth 100000 in
set_option maxHeartbeats 8000000 in
theorem raberth_any (cs zs : List Cpx) (i : Int) (v u : Value) (w : World) (hv : Sl w v cs) (hu : Sl w u zs) (ok : CsOk cs) (okz : CsOk zs) :
    Calls Tryz.prog 38 #[v, u, .int .i64 i] w (StepRet (fitCode cs.length zs.length i) (AberthR cs zs i) w) := by
  obtain ⟨a, cap, rfl, hs⟩ := slShape hv
  obtain ⟨a', cap', rfl, hs'⟩ := slShape hu
  by_cases hf : fitCode cs.length zs.length i = 0
  · rw [hf]
    obtain ⟨n2, n65, hm, hi0, him⟩ := fit_ok hf
    obtain ⟨b, off, rfl, hcap, hc⟩ := hs (by omega)
    obtain ⟨b', off', rfl, hcap', hc'⟩ := hs' (by omega)
    obtain ⟨k, rfl⟩ := Int.eq_ofNat_of_zero_le hi0
    have hk : k < zs.length := by omega
    have FIT := Lib.hid (hf ▸ bad_any (some ⟨b, off, none⟩) (some ⟨b', off', none⟩) cs.length cap zs.length cap' (k : Nat) w)
    have N64 := Lib.hid (show zs.length ≤ 64 by omega)
    have CZ := Lib.hid hc'
    have OKZ := Lib.hid okz
    have OKC := Lib.hid ok
    have HV := Lib.hid (fun W (hW : Below w.heap.size w W) => rboth_any cs (nth zs k) b off cap W (nthOk okz k) n2 n65 hcap (Cells.below hc hW) ok)
    have LZ := Lib.hid (show b' < w.heap.size from World.block_lt_of_cell? w _ (hc' k hk))
    have CK := Lib.hid (hc' k hk)
    have nk : (k : Int) < (zs.length : Int) := by omega
    have nc' : (zs.length : Int) ≤ (cap' : Int) := by omega
    obtain ⟨zk, hzk⟩ : ∃ z, nth zs k = z := ⟨_, rfl⟩
    rw [hzk] at CK HV
    have AL := Lib.hid (show zk.1 < 2 ^ 64 ∧ zk.2 < 2 ^ 64 by rw [← hzk]; exact nthOk okz k)
    have ZK := Lib.hid hzk
    obtain ⟨a1, a2⟩ := zk
    have CN := Lib.hid (show ∀ W, Below w.heap.size w W → W.cell? ⟨b', off' + k, none⟩ = some (.complex .f64 a1 a2) from fun W hW => (hW.cell LZ.out).trans CK.out)
    have hck : w.cell? ⟨b', off' + k, none⟩ = some (.complex .f64 a1 a2) := CK.out
    clear hv hu hs hs' hf n2 n65 hm hi0 him hcap hc hcap' hc' hk okz ok hzk
    go_enter Tryz.func38, Tryz.ntmps38
    go_wp2_with fail
    refine FIT.out.mono ?_
    intro e w1 h1
    rcases h1 with ⟨rfl, rfl⟩
    go_wp2_with fail
    refine (HV.out w (Below.refl _ _)).mono ?_
    intro e w3 h3
    rcases h3 with ⟨o, s, rfl, hx, hb⟩
    have VX := Lib.hid hx
    have B1 := Lib.hid hb
    have LS := Lib.hid (hx.lt OKC.out)
    obtain ⟨o1, o2⟩ := o
    obtain ⟨s1, s2⟩ := s
    clear hx hb hck
    go_wp2_with fail
    refine (refdiv_any o1 o2 s1 s2 _ LS.out.1.1 LS.out.1.2 LS.out.2.1 LS.out.2.2).mono ?_
    intro e w4 h4
    rcases h4 with ⟨q1, q2, r4, rfl, hb⟩
    have RQ := Lib.hid r4
    have QL := Lib.hid (And.intro r4.lt.1 r4.lt.2)
    have B2 := Lib.hid (B1.out.trans (hb.mono B1.out.size))
    clear r4 hb
    go_wp2_with fail
    go_loopw [13, 14] (fun sd si wr => RFold InvS zs k (0, 0) w sd si wr) (fun _ si _ => zs.length - (intOf si).toNat)
    case atStart => exact ⟨0, (0, 0), Nat.zero_le _, rfl, rfl, rfl, ⟨by decide, by decide⟩, B2.out⟩
    case round =>
      obtain ⟨t, x, ht, rfl, rfl, hF, hx, hB⟩ := hrel
      have HFF := Lib.hid hF
      have HT := Lib.hid ht
      have XL := Lib.hid hx
      have HBB := Lib.hid hB
      have ci : wr.cell? ⟨b', off' + k, none⟩ = some (.complex .f64 a1 a2) := CN.out wr hB
      obtain ⟨x1, x2⟩ := x
      clear hF ht hx hB 
      by_cases hlt : t < zs.length
      · have hlt' : decide ((t : Int) < (zs.length : Int)) = true := decide_eq_true (by omega)
        have hlt2 : (t : Int) < (zs.length : Int) := by omega
        have hw1 : IntKind.i64.wrap ((t : Int) + 1) = ((t + 1 : Nat) : Int) := by have := N64.out; rw [show ((t + 1 : Nat) : Int) = (t : Int) + 1 by omega]; exact IntWalk.i64_in _ (by omega)
        have ck0 : wr.cell? ⟨b', off' + t, none⟩ = some (cv (nth zs t)) := Cells.below CZ.out HBB.out t hlt
        obtain ⟨c, hcc⟩ : ∃ c, nth zs t = c := ⟨_, rfl⟩
        rw [hcc] at ck0
        have KC := Lib.hid hcc
        have CL := Lib.hid (show c.1 < 2 ^ 64 ∧ c.2 < 2 ^ 64 by rw [← hcc]; exact nthOk OKZ.out t)
        obtain ⟨c1, c2⟩ := c
        have ck : wr.cell? ⟨b', off' + t, none⟩ = some (.complex .f64 c1 c2) := ck0
        clear hcc ck0
        by_cases hki : t = k
        · have hki' : ((t : Int) == (k : Int)) = true := by rw [beq_iff_eq]; omega
          have KI := Lib.hid hki
          clear hki
          go_wp2_with fail
          go_roundw
          case rel => exact ⟨t + 1, (x1, x2), by omega, rfl, rfl, ⟨(x1, x2), HFF.out, .inl ⟨KI.out, rfl⟩⟩, XL.out, HBB.out⟩
          case measure => simp [intOf]; omega
        · have hki' : ((t : Int) == (k : Int)) = false := by rw [beq_eq_false_iff_ne]; omega
          have KI := Lib.hid hki
          clear hki
          go_wp2_with fail
          go_region_law (first
            | (go_simp; go_at_call 18; (with_reducible refine (refsub_any a1 a2 c1 c2 _ AL.out.1 AL.out.2 CL.out.1 CL.out.2).mono ?_); intro e wd h3; rcases h3 with ⟨y1, y2, r3, he, hb⟩; subst he; have R3 := Lib.hid r3; have Y3 := Lib.hid (And.intro r3.1.lt r3.2.lt); have B3 := Lib.hid (HBB.out.drew.trans (hb.mono HBB.out.drew.size)); clear r3 hb)
            | (go_simp; go_at_call 24; (with_reducible refine (refdiv_any 4607182418800017408 0 y1 y2 _ (by decide) (by decide) Y3.out.1 Y3.out.2).mono ?_); intro e wf h4; rcases h4 with ⟨u1, u2, r4, he, hb⟩; subst he; have R4 := Lib.hid r4; have U4 := Lib.hid (And.intro r4.lt.1 r4.lt.2); have B4 := Lib.hid (B3.out.trans (hb.mono B3.out.size)); clear r4 hb)
            | (go_simp; go_at_call 16; (with_reducible refine (refadd_any x1 x2 u1 u2 _ XL.out.1 XL.out.2 U4.out.1 U4.out.2).mono ?_); intro e we h5; rcases h5 with ⟨g1, g2, r5, he, hb⟩; subst he; have R5 := Lib.hid r5; have GL := Lib.hid (And.intro r5.1.lt r5.2.lt); have B5 := Lib.hid (B4.out.trans (hb.mono B4.out.size)); clear r5 hb))
          all_goals
            go_wp2_with fail
            go_roundw
            case rel => exact ⟨t + 1, (g1, g2), by have := HT.out; omega, rfl, rfl, ⟨(x1, x2), HFF.out, .inr ⟨KI.out, (y1, y2), by rw [ZK.out, KC.out]; exact R3.out, ⟨(u1, u2), R4.out, R5.out⟩⟩⟩, GL.out, B5.out⟩
            case measure => simp [intOf]; omega
      · obtain rfl : t = zs.length := by have := HT.out; omega
        have hge : decide ((zs.length : Int) < (zs.length : Int)) = false := decide_eq_false (by omega)
        clear hlt
        go_wp2_with fail
        go_region_law (first
          | (go_simp; go_at_call 20; (with_reducible refine (refmul_any q1 q2 x1 x2 _ QL.out.1 QL.out.2 XL.out.1 XL.out.2).mono ?_); intro e w6 h6; rcases h6 with ⟨p1, p2, r6, he, hb⟩; subst he; have R6 := Lib.hid r6; have L6 := Lib.hid (And.intro r6.lt.1 r6.lt.2); have B6 := Lib.hid (HBB.out.drew.trans (hb.mono HBB.out.drew.size)); have ck6 : w6.cell? ⟨b', off' + k, none⟩ = some (.complex .f64 a1 a2) := CN.out w6 B6.out; clear r6 hb)
          | (go_simp; go_at_call 18; (with_reducible refine (refsub_any 4607182418800017408 0 p1 p2 _ (by decide) (by decide) L6.out.1 L6.out.2).mono ?_); intro e w7 h7; rcases h7 with ⟨f1, f2, r7, he, hb⟩; subst he; have R7 := Lib.hid r7; have L7 := Lib.hid (And.intro r7.1.lt r7.2.lt); have B7 := Lib.hid (B6.out.trans (hb.mono B6.out.size)); have ck7 : w7.cell? ⟨b', off' + k, none⟩ = some (.complex .f64 a1 a2) := CN.out w7 B7.out; clear r7 hb)
          | (go_simp; go_at_call 24; (with_reducible refine (refdiv_any q1 q2 f1 f2 _ QL.out.1 QL.out.2 L7.out.1 L7.out.2).mono ?_); intro e w8 h8; rcases h8 with ⟨g1, g2, r8, he, hb⟩; subst he; have R8 := Lib.hid r8; have L8 := Lib.hid (And.intro r8.lt.1 r8.lt.2); have B8 := Lib.hid (B7.out.trans (hb.mono B7.out.size)); have ck8 : w8.cell? ⟨b', off' + k, none⟩ = some (.complex .f64 a1 a2) := CN.out w8 B8.out; clear r8 hb)
          | (go_simp; go_at_call 18; (with_reducible refine (refsub_any a1 a2 g1 g2 _ AL.out.1 AL.out.2 L8.out.1 L8.out.2).mono ?_); intro e w9 h9; rcases h9 with ⟨y1, y2, r9, he, hb⟩; subst he; have R9 := Lib.hid r9; have B9 := Lib.hid (B8.out.trans (hb.mono B8.out.size)); clear r9 hb))
        all_goals
          go_wp2_with fail
          go_ret2
          exact ⟨(y1, y2), rfl, fun _ => ⟨(o1, o2), (s1, s2), (q1, q2), (x1, x2), (p1, p2), (f1, f2), (g1, g2), by show BothN cs (nth zs k) _ _ _; rw [ZK.out]; exact VX.out, RQ.out, HFF.out, R6.out, R7.out, R8.out, by show SubR (nth zs k).1 (nth zs k).2 _ _ _ _; rw [ZK.out]; exact R9.out⟩, fun h => absurd rfl h, B9.out⟩
  · obtain ⟨c, hc⟩ : ∃ c, fitCode cs.length zs.length i = c := ⟨_, rfl⟩
    have FIT := Lib.hid (hc ▸ bad_any a a' cs.length cap zs.length cap' i w)
    rw [hc] at hf ⊢
    have HC := Lib.hid hf
    have c0 : (c == 0) = false := beq_eq_false_iff_ne.2 hf
    clear hv hu hs hs' ok okz hc hf
    go_enter Tryz.func38, Tryz.ntmps38
    go_wp2_with fail
    refine FIT.out.mono ?_
    intro e w1 h1
    rcases h1 with ⟨rfl, rfl⟩
    go_wp2_with fail
    go_ret2
    exact ⟨(0, 0), rfl, fun h => absurd h HC.out, fun _ => rfl, Below.refl _ _⟩
end Go.Proofs.YtokmommlabdcdaaGreat
set_option linter.unusedVariables false
set_option linter.unusedSimpArgs false
namespace Go.Proofs.YtokmommlabdcdaaGreat
open Wd Fl Go.RowKit
set_option maxRecDepth 100000 in
set_option maxHeartbeats 8000000 in
theorem rstep_any (way : Int) (cs zs : List Cpx) (i : Int) (v u : Value) (w : World) (hv : Sl w v cs) (hu : Sl w u zs) (ok : CsOk cs) (okz : CsOk zs) :
    Calls Tryz.prog 39 #[.int .i64 way, v, u, .int .i64 i] w (StepRet (stepCode way cs.length zs.length i) (WayR way cs zs i) w) := by
  by_cases hf : fitCode cs.length zs.length i = 0
  · have AB := Lib.hid (hf ▸ raberth_any cs zs i v u w hv hu ok okz)
    have WE := Lib.hid (hf ▸ rweier_any cs zs i v u w hv hu ok okz)
    obtain ⟨n2, n65, hm, hi0, him⟩ := fit_ok hf
    have FITN := Lib.hid (fun a a' cap cap' => hf ▸ bad_any a a' cs.length cap zs.length cap' i w)
    have NE := Lib.hid ((newtonCode_ok n2 n65) ▸ rnewton_any cs (nth zs i.toNat) v w hv ok (nthOk okz _))
    obtain ⟨a', cap', rfl, hs'⟩ := slShape hu
    obtain ⟨b', off', rfl, hcap', hc'⟩ := hs' (by omega)
    obtain ⟨k, rfl⟩ := Int.eq_ofNat_of_zero_le hi0
    have hk : k < zs.length := by omega
    have nk : (k : Int) < (zs.length : Int) := by omega
    have nc' : (zs.length : Int) ≤ (cap' : Int) := by omega
    have CK := Lib.hid (hc' k hk)
    rw [show ((k : Int)).toNat = k from rfl] at NE
    have hZ : ∃ z, nth zs k = z := ⟨_, rfl⟩
    obtain ⟨zk, hzk⟩ := hZ
    have ZK := Lib.hid hzk
    rw [hzk] at CK NE
    obtain ⟨a1, a2⟩ := zk
    have hck : w.cell? ⟨b', off' + k, none⟩ = some (.complex .f64 a1 a2) := CK.out
    obtain ⟨a, cap, rfl, hs⟩ := slShape hv
    have FIT := Lib.hid (FITN.out a (some ⟨b', off', none⟩) cap cap')
    clear FITN hv hu ok okz hs hs' hcap' hc' hk hzk n2 n65 hm hi0 him
    by_cases w1 : way = 1
    · subst w1
      have hs : stepCode 1 cs.length zs.length (k : Nat) = 0 := by unfold stepCode; rw [if_pos hf, if_pos (by decide)]
      rw [hs]
      clear hs hf
      go_enter Tryz.func39, Tryz.ntmps39
      go_wp2_with fail
      refine FIT.out.mono ?_
      intro e w1 h1
      rcases h1 with ⟨rfl, rfl⟩
      go_wp2_with fail
      refine NE.out.mono ?_
      intro e w1 h1
      rcases h1 with ⟨x, rfl, h0, h1, hb⟩
      have HX := Lib.hid (And.intro h0 (And.intro h1 hb))
      clear h0 h1 hb
      go_wp2_with fail
      go_ret2
      exact ⟨x, rfl, fun hz => have h := HX.out.1 trivial; .inl ⟨rfl, by show NewtonR cs (nth zs k) _; rw [ZK.out]; exact h⟩, fun h => absurd rfl h, HX.out.2.2⟩
    by_cases w2 : way = 2
    · subst w2
      have hs : stepCode 2 cs.length zs.length (k : Nat) = 0 := by unfold stepCode; rw [if_pos hf, if_pos (by decide)]
      rw [hs]
      clear hs hf w1
      go_enter Tryz.func39, Tryz.ntmps39
      go_wp2_with fail
      refine FIT.out.mono ?_
      intro e w1 h1
      rcases h1 with ⟨rfl, rfl⟩
      go_wp2_with fail
      refine WE.out.mono ?_
      intro e w1 h1
      rcases h1 with ⟨x, rfl, h0, h1, hb⟩
      have HX := Lib.hid (And.intro h0 (And.intro h1 hb))
      clear h0 h1 hb
      go_wp2_with fail
      go_ret2
      exact ⟨x, rfl, fun hz => have h := HX.out.1 trivial; .inr (.inl ⟨rfl, h⟩), fun h => absurd rfl h, HX.out.2.2⟩
    by_cases w3 : way = 3
    · subst w3
      have hs : stepCode 3 cs.length zs.length (k : Nat) = 0 := by unfold stepCode; rw [if_pos hf, if_pos (by decide)]
      rw [hs]
      clear hs hf w1 w2
      go_enter Tryz.func39, Tryz.ntmps39
      go_wp2_with fail
      refine FIT.out.mono ?_
      intro e w1 h1
      rcases h1 with ⟨rfl, rfl⟩
      go_wp2_with fail
      refine AB.out.mono ?_
      intro e w1 h1
      rcases h1 with ⟨x, rfl, h0, h1, hb⟩
      have HX := Lib.hid (And.intro h0 (And.intro h1 hb))
      clear h0 h1 hb
      go_wp2_with fail
      go_ret2
      exact ⟨x, rfl, fun hz => have h := HX.out.1 trivial; .inr (.inr ⟨rfl, h⟩), fun h => absurd rfl h, HX.out.2.2⟩
    have hs : stepCode way cs.length zs.length (k : Nat) = 181 := by unfold stepCode; rw [if_pos hf, if_neg (by omega)]
    rw [hs]
    have e1 : (way == 1) = false := beq_eq_false_iff_ne.2 w1
    have e2 : (way == 2) = false := beq_eq_false_iff_ne.2 w2
    have e3 : (way == 3) = false := beq_eq_false_iff_ne.2 w3
    clear hs hf w1 w2 w3
    go_enter Tryz.func39, Tryz.ntmps39
    go_wp2_with fail
    refine FIT.out.mono ?_
    intro e w1 h1
    rcases h1 with ⟨rfl, rfl⟩
    go_wp2_with fail
    go_ret2
    exact ⟨(0, 0), rfl, fun h => absurd h (by decide), fun _ => rfl, Below.refl _ _⟩
  · obtain ⟨a, cap, rfl, hs⟩ := slShape hv
    obtain ⟨a', cap', rfl, hs'⟩ := slShape hu
    have hst : stepCode way cs.length zs.length i = fitCode cs.length zs.length i := if_neg hf
    rw [hst]
    obtain ⟨c, hc⟩ : ∃ c, fitCode cs.length zs.length i = c := ⟨_, rfl⟩
    have FIT := Lib.hid (hc ▸ bad_any a a' cs.length cap zs.length cap' i w)
    rw [hc] at hf ⊢
    have HC := Lib.hid hf
    have c0 : (c == 0) = false := beq_eq_false_iff_ne.2 hf
    clear hv hu hs hs' ok okz hc hf hst
    go_enter Tryz.func39, Tryz.ntmps39
    go_wp2_with fail
    refine FIT.out.mono ?_
    intro e w1 h1
    rcases h1 with ⟨rfl, rfl⟩
    go_wp2_with fail
    go_ret2
    exact ⟨(0, 0), rfl, fun h => absurd h HC.out, fun _ => rfl, Below.refl _ _⟩
end Go.Proofs.YtokmommlabdcdaaGreat
set_option linter.unusedVariables false
namespace Go.Proofs.YtokmommlabdcdaaGreat
open Fl
def eAdd (a b : Cpx) : Option Cpx := (D.add a.1 b.1).bind fun x => (D.add a.2 b.2).map fun y => (x, y)
def eSub (a b : Cpx) : Option Cpx := (D.sub a.1 b.1).bind fun x => (D.sub a.2 b.2).map fun y => (x, y)
def eMul (a b : Cpx) : Option Cpx := (D.mul a.1 b.1).bind fun p => (D.mul a.2 b.2).bind fun q => (D.sub p q).bind fun x => (D.mul a.1 b.2).bind fun r => (D.mul a.2 b.1).bind fun s => (D.add r s).map fun y => (x, y)
def eDiv (a b : Cpx) : Option Cpx :=
  if geB (rg b.1) (rg b.2) then
    (D.div b.2 b.1).bind fun r => (D.mul b.2 r).bind fun m => (D.add b.1 m).bind fun t => (D.mul a.2 r).bind fun m1 => (D.add a.1 m1).bind fun n1 => (D.div n1 t).bind fun x => (D.mul a.1 r).bind fun m2 => (D.sub a.2 m2).bind fun n2 => (D.div n2 t).map fun y => (x, y)
  else
    (D.div b.1 b.2).bind fun r => (D.mul b.1 r).bind fun m => (D.add m b.2).bind fun t => (D.mul a.1 r).bind fun m1 => (D.add m1 a.2).bind fun n1 => (D.div n1 t).bind fun x => (D.mul a.2 r).bind fun m2 => (D.sub m2 a.1).bind fun n2 => (D.div n2 t).map fun y => (x, y)
theorem bindE {α β : Type} {o : Option α} {f : α → Option β} {r : β} (h : o.bind f = some r) : ∃ a, o = some a ∧ f a = some r := by
  cases o with
  | none => cases h
  | some a => exact ⟨a, rfl, h⟩
theorem mapE {α β : Type} {o : Option α} {f : α → β} {r : β} (h : o.map f = some r) : ∃ a, o = some a ∧ f a = r := by
  cases o with
  | none => cases h
  | some a => exact ⟨a, rfl, Option.some.inj h⟩
theorem addE {a b x r : Cpx} (h : AddR a.1 a.2 b.1 b.2 x.1 x.2) (e : eAdd a b = some r) : x = r := by
  obtain ⟨u, e1, e⟩ := bindE e
  obtain ⟨v, e2, rfl⟩ := mapE e
  exact Prod.ext (Res.eq h.1 e1) (Res.eq h.2 e2)
theorem subE {a b x r : Cpx} (h : SubR a.1 a.2 b.1 b.2 x.1 x.2) (e : eSub a b = some r) : x = r := by
  obtain ⟨u, e1, e⟩ := bindE e
  obtain ⟨v, e2, rfl⟩ := mapE e
  exact Prod.ext (Res.eq h.1 e1) (Res.eq h.2 e2)
theorem mulE {a b x r : Cpx} (h : MulR a.1 a.2 b.1 b.2 x.1 x.2) (e : eMul a b = some r) : x = r := by
  obtain ⟨p, e1, e⟩ := bindE e
  obtain ⟨q, e2, e⟩ := bindE e
  obtain ⟨u, e3, e⟩ := bindE e
  obtain ⟨r, e4, e⟩ := bindE e
  obtain ⟨s, e5, e⟩ := bindE e
  obtain ⟨v, e6, rfl⟩ := mapE e
  obtain ⟨p', q', r', s', h1, h2, h3, h4, h5, h6⟩ := h
  obtain rfl := Res.eq h1 e1
  obtain rfl := Res.eq h2 e2
  obtain rfl := Res.eq h4 e4
  obtain rfl := Res.eq h5 e5
  exact Prod.ext (Res.eq h3 e3) (Res.eq h6 e6)
theorem divE {a b x r : Cpx} (h : DivR a.1 a.2 b.1 b.2 x.1 x.2) (e : eDiv a b = some r) : x = r := by
  unfold eDiv at e
  rcases h with ⟨g, r, m, t, m1, n1, m2, n2, h1, h2, h3, h4, h5, h6, h7, h8, h9⟩ | ⟨g, r, m, t, m1, n1, m2, n2, h1, h2, h3, h4, h5, h6, h7, h8, h9⟩
  · rw [g, if_pos rfl] at e
    obtain ⟨_, e1, e⟩ := bindE e
    obtain ⟨_, e2, e⟩ := bindE e
    obtain ⟨_, e3, e⟩ := bindE e
    obtain ⟨_, e4, e⟩ := bindE e
    obtain ⟨_, e5, e⟩ := bindE e
    obtain ⟨_, e6, e⟩ := bindE e
    obtain ⟨_, e7, e⟩ := bindE e
    obtain ⟨_, e8, e⟩ := bindE e
    obtain ⟨_, e9, rfl⟩ := mapE e
    obtain rfl := Res.eq h1 e1
    obtain rfl := Res.eq h2 e2
    obtain rfl := Res.eq h3 e3
    obtain rfl := Res.eq h4 e4
    obtain rfl := Res.eq h5 e5
    obtain rfl := Res.eq h7 e7
    obtain rfl := Res.eq h8 e8
    exact Prod.ext (Res.eq h6 e6) (Res.eq h9 e9)
  · rw [g, if_neg (by decide)] at e
    obtain ⟨_, e1, e⟩ := bindE e
    obtain ⟨_, e2, e⟩ := bindE e
    obtain ⟨_, e3, e⟩ := bindE e
    obtain ⟨_, e4, e⟩ := bindE e
    obtain ⟨_, e5, e⟩ := bindE e
    obtain ⟨_, e6, e⟩ := bindE e
    obtain ⟨_, e7, e⟩ := bindE e
    obtain ⟨_, e8, e⟩ := bindE e
    obtain ⟨_, e9, rfl⟩ := mapE e
    obtain rfl := Res.eq h1 e1
    obtain rfl := Res.eq h2 e2
    obtain rfl := Res.eq h3 e3
    obtain rfl := Res.eq h4 e4
    obtain rfl := Res.eq h5 e5
    obtain rfl := Res.eq h7 e7
    obtain rfl := Res.eq h8 e8
    exact Prod.ext (Res.eq h6 e6) (Res.eq h9 e9)
def eStep (v z c : Cpx) : Option Cpx := (eMul v z).bind fun p => eAdd p c
theorem stepE {v z c x r : Cpx} (h : StepR v z c x) (e : eStep v z c = some r) : x = r := by
  obtain ⟨p, e1, e⟩ := bindE e
  obtain ⟨p1, p2, h1, h2⟩ := h
  have := mulE (x := (p1, p2)) h1 e1
  subst this
  exact addE (a := (p1, p2)) h2 e
def eBoth (cs : List Cpx) (z : Cpx) : Nat → Option (Cpx × Cpx)
  | 0 => some (nth cs (cs.length - 1), (0, 0))
  | n + 1 => (eBoth cs z n).bind fun p => (eStep p.1 z (nth cs (cs.length - 2 - n))).bind fun v => (eStep p.2 z p.1).map fun s => (v, s)
theorem bothE {cs : List Cpx} {z : Cpx} : ∀ {n : Nat} {v s : Cpx} {r : Cpx × Cpx}, BothN cs z n v s → eBoth cs z n = some r → v = r.1 ∧ s = r.2
  | 0, _, _, _, ⟨h1, h2⟩, e => by cases e; exact ⟨h1, h2⟩
  | n + 1, v, s, r, ⟨v0, s0, h, h1, h2⟩, e => by
    obtain ⟨p, e0, e⟩ := bindE e
    obtain ⟨v', e1, e⟩ := bindE e
    obtain ⟨s', e2, rfl⟩ := mapE e
    obtain ⟨rfl, rfl⟩ := bothE h e0
    exact ⟨stepE h1 e1, stepE h2 e2⟩
def eVal (cs : List Cpx) (z : Cpx) : Nat → Option Cpx
  | 0 => some (nth cs (cs.length - 1))
  | n + 1 => (eVal cs z n).bind fun p => eStep p z (nth cs (cs.length - 2 - n))
theorem valE {cs : List Cpx} {z : Cpx} : ∀ {n : Nat} {v r : Cpx}, ValN cs z n v → eVal cs z n = some r → v = r
  | 0, _, _, h, e => by cases e; exact h
  | n + 1, v, r, ⟨v0, h, h1⟩, e => by
    obtain ⟨p, e0, e⟩ := bindE e
    obtain rfl := valE h e0
    exact stepE h1 e
def eFold (f : Cpx → Cpx → Option Cpx) (zs : List Cpx) (i : Nat) (s : Cpx) : Nat → Option Cpx
  | 0 => some s
  | k + 1 => (eFold f zs i s k).bind fun y => if k = i then some y else (eSub (nth zs i) (nth zs k)).bind fun d => f y d
theorem foldE {R : Cpx → Cpx → Cpx → Prop} {f : Cpx → Cpx → Option Cpx} (hf : ∀ y d x r, R y d x → f y d = some r → x = r) {zs : List Cpx} {i : Nat} {s : Cpx} : ∀ {k : Nat} {x r : Cpx}, FoldS R zs i s k x → eFold f zs i s k = some r → x = r
  | 0, _, _, h, e => by cases e; exact h
  | k + 1, x, r, ⟨y, h, g⟩, e => by
    obtain ⟨p, e0, e⟩ := bindE e
    obtain rfl := foldE hf h e0
    rcases g with ⟨rfl, rfl⟩ | ⟨hk, d, h1, h2⟩
    · rw [if_pos rfl] at e; cases e; rfl
    · rw [if_neg hk] at e
      obtain ⟨d', e1, e⟩ := bindE e
      obtain rfl := subE h1 e1
      exact hf _ _ _ _ h2 e
def eInv (y d : Cpx) : Option Cpx := (eDiv cOne d).bind fun q => eAdd y q
theorem mulSE (y d x r : Cpx) (h : MulS y d x) (e : eMul y d = some r) : x = r := mulE h e
theorem invSE (y d x r : Cpx) (h : InvS y d x) (e : eInv y d = some r) : x = r := by
  obtain ⟨p, e1, e⟩ := bindE e
  obtain ⟨q, h1, h2⟩ := h
  obtain rfl := divE h1 e1
  exact addE h2 e
def eNewton (cs : List Cpx) (z : Cpx) : Option Cpx := (eBoth cs z (cs.length - 1)).bind fun p => (eDiv p.1 p.2).bind fun q => eSub z q
theorem newtonE {cs : List Cpx} {z x r : Cpx} (h : NewtonR cs z x) (e : eNewton cs z = some r) : x = r := by
  obtain ⟨p, e0, e⟩ := bindE e
  obtain ⟨q, e1, e⟩ := bindE e
  obtain ⟨v, s, q', h0, h1, h2⟩ := h
  obtain ⟨rfl, rfl⟩ := bothE h0 e0
  obtain rfl := divE h1 e1
  exact subE h2 e
def eWeier (cs zs : List Cpx) (i : Nat) : Option Cpx := (eFold eMul zs i (nth cs (cs.length - 1)) zs.length).bind fun d => (eVal cs (nth zs i) (cs.length - 1)).bind fun v => (eDiv v d).bind fun q => eSub (nth zs i) q
theorem weierE {cs zs : List Cpx} {i : Nat} {x r : Cpx} (h : WeierR cs zs (i : Nat) x) (e : eWeier cs zs i = some r) : x = r := by
  obtain ⟨d, e0, e⟩ := bindE e
  obtain ⟨v, e1, e⟩ := bindE e
  obtain ⟨q, e2, e⟩ := bindE e
  obtain ⟨d', v', q', h0, h1, h2, h3⟩ := h
  obtain rfl := foldE mulSE h0 e0
  obtain rfl := valE h1 e1
  obtain rfl := divE h2 e2
  exact subE h3 e
def eAberth (cs zs : List Cpx) (i : Nat) : Option Cpx := (eBoth cs (nth zs i) (cs.length - 1)).bind fun p => (eDiv p.1 p.2).bind fun q => (eFold eInv zs i (0, 0) zs.length).bind fun a => (eMul q a).bind fun m => (eSub cOne m).bind fun r => (eDiv q r).bind fun t => eSub (nth zs i) t
theorem aberthE {cs zs : List Cpx} {i : Nat} {x r : Cpx} (h : AberthR cs zs (i : Nat) x) (e : eAberth cs zs i = some r) : x = r := by
  obtain ⟨p, e0, e⟩ := bindE e
  obtain ⟨q, e1, e⟩ := bindE e
  obtain ⟨a, e2, e⟩ := bindE e
  obtain ⟨m, e3, e⟩ := bindE e
  obtain ⟨r, e4, e⟩ := bindE e
  obtain ⟨t, e5, e⟩ := bindE e
  obtain ⟨v', s', q', a', p', r', t', h0, h1, h2, h3, h4, h5, h6⟩ := h
  obtain ⟨rfl, rfl⟩ := bothE h0 e0
  obtain rfl := divE h1 e1
  obtain rfl := foldE invSE h2 e2
  obtain rfl := mulE h3 e3
  obtain rfl := subE h4 e4
  obtain rfl := divE h5 e5
  exact subE h6 e
end Go.Proofs.YtokmommlabdcdaaGreat
set_option linter.unusedVariables false
namespace Go.Proofs.YtokmommlabdcdaaGreat
open Fl
def SP (a b : Cpx) : Prop := SameP a.1 a.2 b.1 b.2
theorem SP.refl (a : Cpx) : SP a a := SameP.refl _ _
theorem StepR.cong {v z c x v' z' c' x' : Cpx} (h : StepR v z c x) (g : StepR v' z' c' x') (h1 : SP v v') (h2 : SP z z') (h3 : SP c c') : SP x x' := by
  obtain ⟨p, q, e1, e2⟩ := h
  obtain ⟨p', q', f1, f2⟩ := g
  exact e2.cong f2 (e1.cong f1 h1 h2) h3
theorem BothN.same {cs : List Cpx} {z : Cpx} : ∀ {n : Nat} {v s v' s' : Cpx}, BothN cs z n v s → BothN cs z n v' s' → SP v v' ∧ SP s s'
  | 0, _, _, _, _, ⟨h1, h2⟩, ⟨g1, g2⟩ => by subst h1; subst h2; subst g1; subst g2; exact ⟨.refl _, .refl _⟩
  | _ + 1, _, _, _, _, ⟨_, _, h, h1, h2⟩, ⟨_, _, g, g1, g2⟩ => by
    have ⟨a, b⟩ := BothN.same h g
    exact ⟨h1.cong g1 a (.refl _) (.refl _), h2.cong g2 b (.refl _) a⟩
theorem ValN.same {cs : List Cpx} {z : Cpx} : ∀ {n : Nat} {v v' : Cpx}, ValN cs z n v → ValN cs z n v' → SP v v'
  | 0, _, _, h1, g1 => by subst h1; subst g1; exact .refl _
  | _ + 1, _, _, ⟨_, h, h1⟩, ⟨_, g, g1⟩ => h1.cong g1 (ValN.same h g) (.refl _) (.refl _)
theorem FoldS.same {R : Cpx → Cpx → Cpx → Prop} (hR : ∀ y d x y' d' x', R y d x → R y' d' x' → SP y y' → SP d d' → SP x x') {zs : List Cpx} {i : Nat} {s : Cpx} : ∀ {k : Nat} {x x' : Cpx}, FoldS R zs i s k x → FoldS R zs i s k x' → SP x x'
  | 0, _, _, h1, g1 => by subst h1; subst g1; exact .refl _
  | k + 1, x, x', ⟨y, h, a⟩, ⟨y', g, b⟩ => by
    have ih := FoldS.same hR h g
    rcases a with ⟨ha, rfl⟩ | ⟨ha, d, h1, h2⟩
    · rcases b with ⟨hb, rfl⟩ | ⟨hb, d', g1, g2⟩
      · exact ih
      · exact absurd ha hb
    · rcases b with ⟨hb, rfl⟩ | ⟨hb, d', g1, g2⟩
      · exact absurd hb ha
      · exact hR _ _ _ _ _ _ h2 g2 ih (h1.cong g1 (.refl _ _) (.refl _ _))
theorem MulS.cong (y d x y' d' x' : Cpx) (h : MulS y d x) (g : MulS y' d' x') (h1 : SP y y') (h2 : SP d d') : SP x x' := MulR.cong h g h1 h2
theorem InvS.cong (y d x y' d' x' : Cpx) (h : InvS y d x) (g : InvS y' d' x') (h1 : SP y y') (h2 : SP d d') : SP x x' := by
  obtain ⟨q, e1, e2⟩ := h
  obtain ⟨q', f1, f2⟩ := g
  exact e2.cong f2 h1 (e1.cong f1 (.refl _ _) h2)
theorem NewtonR.same {cs : List Cpx} {z x x' : Cpx} (h : NewtonR cs z x) (g : NewtonR cs z x') : SP x x' := by
  obtain ⟨v, s, q, h0, h1, h2⟩ := h
  obtain ⟨v', s', q', g0, g1, g2⟩ := g
  have ⟨a, b⟩ := h0.same g0
  exact h2.cong g2 (.refl _ _) (h1.cong g1 a b)
theorem WeierR.same {cs zs : List Cpx} {i : Int} {x x' : Cpx} (h : WeierR cs zs i x) (g : WeierR cs zs i x') : SP x x' := by
  obtain ⟨d, v, q, h0, h1, h2, h3⟩ := h
  obtain ⟨d', v', q', g0, g1, g2, g3⟩ := g
  exact h3.cong g3 (.refl _ _) (h2.cong g2 (h1.same g1) (h0.same MulS.cong g0))
theorem AberthR.same {cs zs : List Cpx} {i : Int} {x x' : Cpx} (h : AberthR cs zs i x) (g : AberthR cs zs i x') : SP x x' := by
  obtain ⟨v, s, q, a, p, r, t, h0, h1, h2, h3, h4, h5, h6⟩ := h
  obtain ⟨v', s', q', a', p', r', t', g0, g1, g2, g3, g4, g5, g6⟩ := g
  have ⟨a, b⟩ := h0.same g0
  have hq := h1.cong g1 a b
  exact h6.cong g6 (.refl _ _) (h5.cong g5 hq (h4.cong g4 (.refl _ _) (h3.cong g3 hq (h2.same InvS.cong g2))))
theorem WayR.same {way : Int} {cs zs : List Cpx} {i : Int} {x x' : Cpx} (h : WayR way cs zs i x) (g : WayR way cs zs i x') : SP x x' := by
  rcases h with ⟨e, h⟩ | ⟨e, h⟩ | ⟨e, h⟩ <;> rcases g with ⟨f, g⟩ | ⟨f, g⟩ | ⟨f, g⟩ <;> first | exact h.same g | omega
theorem WayR.at1 {cs zs : List Cpx} {i : Int} {x : Cpx} (h : WayR 1 cs zs i x) : NewtonR cs (nth zs i.toNat) x := by
  rcases h with ⟨_, h⟩ | ⟨e, _⟩ | ⟨e, _⟩
  · exact h
  · exact absurd e (by decide)
  · exact absurd e (by decide)
theorem WayR.at2 {cs zs : List Cpx} {i : Int} {x : Cpx} (h : WayR 2 cs zs i x) : WeierR cs zs i x := by
  rcases h with ⟨e, _⟩ | ⟨_, h⟩ | ⟨e, _⟩
  · exact absurd e (by decide)
  · exact h
  · exact absurd e (by decide)
theorem WayR.at3 {cs zs : List Cpx} {i : Int} {x : Cpx} (h : WayR 3 cs zs i x) : AberthR cs zs i x := by
  rcases h with ⟨e, _⟩ | ⟨e, _⟩ | ⟨_, h⟩
  · exact absurd e (by decide)
  · exact absurd e (by decide)
  · exact h
end Go.Proofs.YtokmommlabdcdaaGreat
