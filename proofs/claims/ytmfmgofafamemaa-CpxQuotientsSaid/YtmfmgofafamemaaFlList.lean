/- Lists of complex numbers in memory, and what the three sums of a list may answer. -/
import Derived.Test.YtmfmgofafamemaaFlBits
namespace Fl
open Go

abbrev Cpx := Nat × Nat
/-- the value of a complex number -/
def cv (z : Cpx) : Value := .complex .f64 z.1 z.2
/-- the i-th -/
def nth (zs : List Cpx) (i : Nat) : Cpx := zs.getD i (0, 0)
/-- the cells from an address on hold the list -/
def Cells (w : World) (b off : Nat) (zs : List Cpx) : Prop := ∀ i, i < zs.length → w.cell? ⟨b, off + i, none⟩ = some (cv (nth zs i))
/-- a slice value that reads as the list -/
def Sl (w : World) (v : Value) (zs : List Cpx) : Prop :=
  (v = .slice none 0 0 ∧ zs = []) ∨ ∃ b off cap, v = .slice (some ⟨b, off, none⟩) zs.length cap ∧ zs.length ≤ cap ∧ Cells w b off zs

theorem Cells.drewN {w : World} {b off : Nat} {zs : List Cpx} (h : Cells w b off zs) (n : Nat) : Cells (w.drewN n) b off zs := h
theorem Sl.drewN {w : World} {v : Value} {zs : List Cpx} (h : Sl w v zs) (n : Nat) : Sl (w.drewN n) v zs := h
theorem Cells.take {w : World} {b off : Nat} {zs : List Cpx} (h : Cells w b off zs) (k : Nat) : Cells w b off (zs.take k) := fun i hi => by
  have hl : (zs.take k).length ≤ zs.length := List.length_take_le' _ _
  have hk : i < k := by have := List.length_take_le k zs; omega
  rw [h i (by omega)]
  congr 2
  simp [nth, List.getD_eq_getElem?_getD, hk]
theorem Cells.drop {w : World} {b off : Nat} {zs : List Cpx} (h : Cells w b off zs) (k : Nat) : Cells w b (off + k) (zs.drop k) := fun i hi => by
  rw [List.length_drop] at hi
  have := h (k + i) (by omega)
  rw [Nat.add_assoc, this]
  congr 2
  simp [nth, List.getD_eq_getElem?_getD]

inductive HalvesR : List Cpx → Nat → Nat → Prop
  | nil : HalvesR [] 0 0
  | one (z : Cpx) : HalvesR [z] z.1 z.2
  | more (zs : List Cpx) (a b c d x y : Nat) : 2 ≤ zs.length → HalvesR (zs.take (zs.length / 2)) a b → HalvesR (zs.drop (zs.length / 2)) c d → AddR a b c d x y → HalvesR zs x y

/-- added one by one behind what is there -/
inductive FoldR : Nat → Nat → List Cpx → Nat → Nat → Prop
  | nil (a b : Nat) : FoldR a b [] a b
  | cons (a b : Nat) (z : Cpx) (zs : List Cpx) (c d x y : Nat) : AddR a b z.1 z.2 c d → FoldR c d zs x y → FoldR a b (z :: zs) x y

theorem FoldR.snoc {a b : Nat} {zs : List Cpx} {c d : Nat} (h : FoldR a b zs c d) {z : Cpx} {x y : Nat} (g : AddR c d z.1 z.2 x y) : FoldR a b (zs ++ [z]) x y := by
  induction h with
  | nil a b => exact .cons _ _ _ _ _ _ _ _ g (.nil _ _)
  | cons a b z' zs' c' d' x' y' h1 _ ih => exact .cons _ _ _ _ _ _ _ _ h1 (ih g)

/-- the sum from the front of a list of one or more -/
def FrontR (zs : List Cpx) (x y : Nat) : Prop := match zs with
  | [] => x = 0 ∧ y = 0
  | z :: r => FoldR z.1 z.2 r x y
/-- what Sum answers in an order that is one -/
def SumR (zs : List Cpx) (order : Int) (x y : Nat) : Prop :=
  (order = 1 ∧ FrontR zs x y) ∨ (order = 2 ∧ FrontR zs.reverse x y) ∨ (order = 3 ∧ HalvesR zs x y)

/-- a complex number is answered, of which Q; the world but for draws as it was -/
def CRet (Q : Nat → Nat → Prop) (w : World) (e : Ending) (w' : World) : Prop := ∃ x y n, Q x y ∧ e = .returned (.complex .f64 x y) ∧ w' = w.drewN n
theorem CRet.mk {Q : Nat → Nat → Prop} {w : World} {x y : Nat} (n : Nat) (h : Q x y) : CRet Q w (.returned (.complex .f64 x y)) (w.drewN n) := ⟨x, y, n, h, rfl, rfl⟩
theorem CRet.mk0 {Q : Nat → Nat → Prop} {w : World} {x y : Nat} (h : Q x y) : CRet Q w (.returned (.complex .f64 x y)) w := ⟨x, y, 0, h, rfl, rfl⟩

/-- what a call of Sum answers; nothing that was there is written -/
def SumRet (zs : List Cpx) (order : Int) (w : World) (e : Ending) (w' : World) : Prop :=
  ∃ x y code, e = .returned (.tuple #[.complex .f64 x y, .int .i64 code]) ∧
    ((1 ≤ order ∧ order ≤ 3 ∧ code = 0 ∧ SumR zs order x y) ∨ (¬ (1 ≤ order ∧ order ≤ 3) ∧ code = 50 ∧ x = 0 ∧ y = 0)) ∧ RowKit.Below w.heap.size w w'
theorem SumRet.bad {zs : List Cpx} {order : Int} {w w' : World} (h : ¬ (1 ≤ order ∧ order ≤ 3)) (hb : RowKit.Below w.heap.size w w') :
    SumRet zs order w (.returned (.tuple #[.complex .f64 0 0, .int .i64 50])) w' := ⟨0, 0, 50, rfl, .inr ⟨h, rfl, rfl, rfl⟩, hb⟩
theorem SumRet.ok {zs : List Cpx} {order : Int} {w w' : World} {x y : Nat} (h1 : 1 ≤ order) (h3 : order ≤ 3) (h : SumR zs order x y) (hb : RowKit.Below w.heap.size w w') :
    SumRet zs order w (.returned (.tuple #[.complex .f64 x y, .int .i64 0])) w' := ⟨x, y, 0, rfl, .inl ⟨h1, h3, rfl, h⟩, hb⟩
/-- of fewer than two the halves' sum is every order's -/
theorem SumR.short {zs : List Cpx} {order : Int} {x y : Nat} (h1 : 1 ≤ order) (h3 : order ≤ 3) (hl : zs.length < 2 ∨ order = 3) (h : HalvesR zs x y) : SumR zs order x y := by
  by_cases h0 : order = 3
  · exact .inr (.inr ⟨h0, h⟩)
  · have hl : zs.length < 2 := by omega
    have key : FrontR zs x y ∧ FrontR zs.reverse x y := by
      cases h with
      | nil => exact ⟨⟨rfl, rfl⟩, ⟨rfl, rfl⟩⟩
      | one z => exact ⟨.nil _ _, .nil _ _⟩
      | more => omega
    by_cases h2 : order = 1
    · exact .inl ⟨h2, key.1⟩
    · exact .inr (.inl ⟨by omega, key.2⟩)

theorem Cells.below {w w' : World} {b off : Nat} {zs : List Cpx} (h : Cells w b off zs) (hb : RowKit.Below w.heap.size w w') : Cells w' b off zs := fun i hi => by
  have e := h i hi
  have hl : b < w.heap.size := World.block_lt_of_cell? w _ e
  rw [hb.cell hl]; exact e
theorem Sl.below {w w' : World} {v : Value} {zs : List Cpx} (h : Sl w v zs) (hb : RowKit.Below w.heap.size w w') : Sl w' v zs := by
  rcases h with h | ⟨b, off, cap, rfl, hcap, hc⟩
  · exact .inl h
  · exact .inr ⟨b, off, cap, rfl, hcap, hc.below hb⟩
theorem below_alloc (w : World) (o : Obj) : RowKit.Below w.heap.size w (w.alloc o) := (RowKit.Below.refl _ _).alloc (Nat.le_refl _) o
theorem Sl.alloc {w : World} {v : Value} {zs : List Cpx} (h : Sl w v zs) (o : Obj) : Sl (w.alloc o) v zs := h.below (below_alloc w o)

theorem FrontR.snoc {l : List Cpx} {x y : Nat} (h : FrontR l x y) (h0 : l ≠ []) {z : Cpx} {c d : Nat} (g : AddR x y z.1 z.2 c d) : FrontR (l ++ [z]) c d := by
  cases l with
  | nil => exact absurd rfl h0
  | cons a r => exact FoldR.snoc h g
theorem FrontR.step {l : List Cpx} {k x y : Nat} (h1 : 1 ≤ k) (hk : k < l.length) (h : FrontR (l.take k) x y) {c d : Nat} (g : AddR x y (nth l k).1 (nth l k).2 c d) : FrontR (l.take (k + 1)) c d := by
  rw [List.take_succ_eq_append_getElem hk]
  refine h.snoc ?_ ?_
  · intro e
    have := congrArg List.length e
    rw [List.length_take, List.length_nil] at this
    omega
  · have e : nth l k = l[k] := by simp [nth, List.getD_eq_getElem?_getD, hk]
    rw [← e]; exact g
/-- the list in the row in which an order takes it -/
def rowOf (order : Int) (zs : List Cpx) : List Cpx := if order = 2 then zs.reverse else zs
theorem rowOf_len (order : Int) (zs : List Cpx) : (rowOf order zs).length = zs.length := by unfold rowOf; split <;> simp
theorem SumR.front {order : Int} {zs : List Cpx} {x y : Nat} (ho : order = 1 ∨ order = 2) (h : FrontR (rowOf order zs) x y) : SumR zs order x y := by
  unfold rowOf at h
  rcases ho with rfl | rfl
  · exact .inl ⟨rfl, h⟩
  · exact .inr (.inl ⟨rfl, h⟩)

theorem cell_new (w : World) (v : Value) (t : TypeId) : (w.alloc (.cells #[v] t)).cell? ⟨w.heap.size, 0, none⟩ = some v := by
  unfold World.cell?
  have : (w.alloc (.cells #[v] t)).heap[w.heap.size]? = some (.cells #[v] t) := by
    show (w.heap.push _)[w.heap.size]? = _
    simp
  simp only [this]
  rfl
theorem cell_old {w : World} {a : Addr} {v : Value} (h : w.cell? a = some v) (o : Obj) : (w.alloc o).cell? a = some v := by
  have hl : a.block < w.heap.size := World.block_lt_of_cell? w _ h
  rw [(below_alloc w o).cell hl]; exact h

theorem FrontR.first {l : List Cpx} (h : 1 ≤ l.length) : FrontR (l.take 1) (nth l 0).1 (nth l 0).2 := by
  cases l with
  | nil => simp at h
  | cons a r => exact .nil _ _

/-- what a call owns from base on is no block below it -/
theorem own_ne {w : World} {base : Nat} {e : TypeId} {size : Nat} {v : Value} {n : Nat} {xs : List Value} (h : w.ownsRow base e size v n xs) {b : Nat} (hb : b < base) : v.ownBlock ≠ some b := by
  obtain ⟨_, ⟨rfl, _⟩ | ⟨g, cap, cur, rfl, hg, _⟩⟩ := h
  · simp [Value.ownBlock]
  · simp only [Value.ownBlock, ne_eq, Option.some.injEq]; omega
theorem own_ge {w : World} {base : Nat} {e : TypeId} {size : Nat} {v : Value} {n : Nat} {xs : List Value} (h : w.ownsRow base e size v n xs) : ∀ k, v.ownBlock = some k → base ≤ k := by
  obtain ⟨_, ⟨rfl, _⟩ | ⟨g, cap, cur, rfl, hg, _⟩⟩ := h
  · simp [Value.ownBlock]
  · simp only [Value.ownBlock, Option.some.injEq]; omega
/-- an owned row of complex numbers reads as the list -/
theorem Sl.of_own {w : World} {base : Nat} {e : TypeId} {v : Value} {zs : List Cpx} (h : w.ownsRow base e 1 v zs.length (zs.map cv)) : Sl w v zs := by
  obtain ⟨hl, ⟨rfl, h0⟩ | ⟨g, cap, cur, rfl, hg, hb, hn, _, hcs, ht⟩⟩ := h
  · exact .inl ⟨rfl, List.eq_nil_of_length_eq_zero h0⟩
  · refine .inr ⟨g, 0, cap, rfl, hn, fun i hi => ?_⟩
    have : w.cell? ⟨g, 0 + i, none⟩ = cur[i]? := by
      unfold World.cell?; simp [hb]
    rw [this, ← Array.getElem?_toList]
    rw [Nat.mul_one] at ht
    have e1 : cur.toList[i]? = (cur.toList.take zs.length)[i]? := by rw [List.getElem?_take, if_pos hi]
    rw [e1, ht]
    simp [nth, List.getElem?_map, List.getElem?_eq_getElem hi, List.getD_eq_getElem?_getD]
theorem map_take_succ (zs : List Cpx) (k : Nat) (h : k < zs.length) : (zs.take (k + 1)).map cv = (zs.take k).map cv ++ [cv (nth zs k)] := by
  rw [List.take_succ_eq_append_getElem h, List.map_append]
  have : nth zs k = zs[k] := by simp [nth, List.getD_eq_getElem?_getD, h]
  rw [this]; rfl
theorem own_nil (w : World) (base : Nat) (e : TypeId) (size : Nat) : w.ownsRow base e size (.slice none 0 0) 0 [] := ⟨by simp, .inl ⟨rfl, rfl⟩⟩
/-- an owned row that holds something: where it lies, and its cells -/
theorem own_pos {w : World} {base : Nat} {e : TypeId} {v : Value} {zs : List Cpx} (h : w.ownsRow base e 1 v zs.length (zs.map cv)) (h0 : 0 < zs.length) :
    ∃ g cap, v = .slice (some ⟨g, 0, none⟩) zs.length cap ∧ zs.length ≤ cap ∧ base ≤ g ∧ g < w.heap.size ∧ Cells w g 0 zs := by
  have hs := Sl.of_own h
  obtain ⟨hl, ⟨rfl, h0'⟩ | ⟨g, cap, cur, rfl, hg, hb, hn, _, hcs, ht⟩⟩ := h
  · omega
  · rcases hs with ⟨h, _⟩ | ⟨b, off, cap', he, hcap, hc⟩
    · cases h
    · cases he
      exact ⟨g, cap, rfl, hn, hg, World.block_lt_of_cell? w _ (hc 0 h0), hc⟩
theorem own_slice {w : World} {base : Nat} {e : TypeId} {v : Value} {zs : List Cpx} (h : w.ownsRow base e 1 v zs.length (zs.map cv)) : ∃ a cap, v = .slice a zs.length cap := by
  obtain ⟨hl, ⟨rfl, h0'⟩ | ⟨g, cap, cur, rfl, hg, hb, hn, _, hcs, ht⟩⟩ := h
  · rw [h0']; exact ⟨_, _, rfl⟩
  · exact ⟨_, _, rfl⟩
/-- what is read of pairs of words: the form that the walks take -/
theorem BitsOk_nth {bs : List Cpx} (h : ∀ z ∈ bs, z.1 < 2 ^ 64 ∧ z.2 < 2 ^ 64) (k : Nat) (hk : k < bs.length) : (nth bs k).1 < 2 ^ 64 ∧ (nth bs k).2 < 2 ^ 64 := by
  have e : nth bs k = bs[k] := by simp [nth, List.getD_eq_getElem?_getD, hk]
  rw [e]; exact h _ (List.getElem_mem _)
end Fl
