/- Lists of words, and whole numbers, as they lie in memory. No conditions. -/
import Derived.Test.YtokmommlabdcdaaGreatDoorVFlRel
import Derived.Test.YtokmommlabdcdaaGreatDoorVFl
import Derived.OneCell
set_option linter.unusedVariables false
set_option linter.unusedSimpArgs false
set_option linter.unusedVariables false
set_option linter.unusedSimpArgs false
namespace Wd
open Go Go.RowKit
/-- block b holds cells of type T, none frozen -/
def Ty (T : TypeId) (w : World) (b : Nat) : Prop := ∃ cur, w.heap[b]? = some (.cells cur T (0, 0))
theorem Ty.lt {T : TypeId} {w : World} {b : Nat} (h : Ty T w b) : b < w.heap.size := by
  obtain ⟨cur, h⟩ := h; exact (Array.getElem?_eq_some_iff.1 h).1
theorem Ty.ne {T t : TypeId} {w : World} {b c : Nat} (h : Ty T w b) (g : Ty t w c) (hT : t ≠ T) : b ≠ c := by
  rintro rfl
  obtain ⟨_, h⟩ := h; obtain ⟨_, g⟩ := g
  rw [h] at g
  injection g with g; injection g with _ g _
  exact hT g.symm
theorem Ty.frozen {T : TypeId} {w : World} {b : Nat} (h : Ty T w b) (o : Nat) : w.frozen? ⟨b, o, none⟩ = false := by
  obtain ⟨cur, h⟩ := h; exact frozen_of_row w b o cur T h
theorem Ty.set {T : TypeId} {w : World} {b : Nat} (h : Ty T w b) (c o : Nat) (v : Value) : Ty T (w.setCell ⟨c, o, none⟩ v) b := by
  obtain ⟨cur, h⟩ := h
  by_cases e : b = c
  · subst e
    exact ⟨cur.setIfInBounds o v, heap_setCell_same w b o cur T v h⟩
  · exact ⟨cur, by rw [heap_setCell_other w ⟨c, o, none⟩ b v e]; exact h⟩
theorem Ty.keep {T : TypeId} {w w' : World} {b : Nat} (h : Ty T w b) (e : w'.heap[b]? = w.heap[b]?) : Ty T w' b := by
  obtain ⟨cur, h⟩ := h; exact ⟨cur, e.trans h⟩
/-- a slice value that reads as a list of words -/
def WAt (T : TypeId) (w : World) (v : Value) (l : List Nat) : Prop :=
  (l = [] ∧ ∃ a cap, v = .slice a 0 cap ∧ (a = none → cap = 0)) ∨
  ∃ b off cap, v = .slice (some ⟨b, off, none⟩) l.length cap ∧ 0 < l.length ∧ l.length ≤ cap ∧ Ty T w b ∧ ∀ i, i < l.length → w.cell? ⟨b, off + i, none⟩ = some (.int .u32 (l.getD i 0 : Nat))
theorem WAt.keep {T : TypeId} {w w' : World} {v : Value} {l : List Nat} (h : WAt T w v l) (k : ∀ b, Ty T w b → w'.heap[b]? = w.heap[b]?) : WAt T w' v l := by
  rcases h with h | ⟨b, off, cap, rfl, h0, hc, ht, hl⟩
  · exact .inl h
  · refine .inr ⟨b, off, cap, rfl, h0, hc, ht.keep (k b ht), fun i hi => ?_⟩
    rw [World.cell?_of_block (w := w) (k b ht)]; exact hl i hi
theorem WAt.below {T : TypeId} {w w' : World} {v : Value} {l : List Nat} (h : WAt T w v l) (hb : Below w.heap.size w w') : WAt T w' v l :=
  h.keep fun b ht => hb.block b ht.lt
theorem WAt.slice {T : TypeId} {w : World} {v : Value} {l : List Nat} (h : WAt T w v l) : ∃ a cap, v = .slice a l.length cap := by
  rcases h with ⟨rfl, a, cap, rfl, -⟩ | ⟨b, off, cap, rfl, _⟩
  · exact ⟨a, cap, rfl⟩
  · exact ⟨_, cap, rfl⟩
theorem WAt.take {T : TypeId} {w : World} {a : Option Addr} {n cap : Nat} {l : List Nat} (h : WAt T w (.slice a n cap) l) (k : Nat) (hk : k ≤ l.length) : WAt T w (.slice a k cap) (l.take k) := by
  rcases h with ⟨rfl, a', cap', e, z⟩ | ⟨b, off, cap', e, h0, hc, ht, hl⟩
  · injection e with e1 _ e3; subst e1 e3; simp at hk; subst hk; exact .inl ⟨rfl, _, _, rfl, z⟩
  · injection e with e1 e2 e3
    subst e1 e3
    by_cases k0 : k = 0
    · subst k0; exact .inl ⟨rfl, _, _, rfl, fun h => by simp at h⟩
    · have hlen : (l.take k).length = k := by rw [List.length_take]; omega
      refine .inr ⟨b, off, cap, by rw [hlen], by omega, by omega, ht, fun i hi => ?_⟩
      rw [hlen] at hi
      have e : (l.take k).getD i 0 = l.getD i 0 := by rw [List.getD_eq_getElem?_getD, List.getD_eq_getElem?_getD, List.getElem?_take, if_pos hi]
      rw [e]; exact hl i (by omega)
theorem WAt.drop {T : TypeId} {w : World} {b off n cap : Nat} {l : List Nat} (h : WAt T w (.slice (some ⟨b, off, none⟩) n cap) l) (k : Nat) (hk : k ≤ l.length) (m c : Nat) (hm : m = n - k) (hc : c = cap - k) :
    WAt T w (.slice (some ⟨b, off + k, none⟩) m c) (l.drop k) := by
  subst hm hc
  rcases h with ⟨rfl, a', cap', e, -⟩ | ⟨b, off, cap', e, h0, hc, ht, hl⟩
  · injection e with e1 e2 e3
    subst e2
    exact .inl ⟨by simp, _, _, by rw [Nat.zero_sub], fun h => by simp at h⟩
  · injection e with e1 e2 e3
    injection e1 with e1
    injection e1 with e1 e4
    subst e1 e2 e3 e4
    have hlen : (l.drop k).length = l.length - k := List.length_drop
    by_cases k0 : k = l.length
    · subst k0; exact .inl ⟨by simp, _, _, by rw [Nat.sub_self], fun h => by simp at h⟩
    · refine .inr ⟨_, _, _, by rw [hlen], by omega, by omega, ht, fun i hi => ?_⟩
      have e : (l.drop k).getD i 0 = l.getD (k + i) 0 := by rw [List.getD_eq_getElem?_getD, List.getD_eq_getElem?_getD, List.getElem?_drop]
      rw [e, Nat.add_assoc]; exact hl (k + i) (by omega)
/-- what the call owns reads as a list -/
def wv (n : Nat) : Value := .int .u32 (n : Int)
theorem WAt.of_own {T : TypeId} {w : World} {base : Nat} {v : Value} {l : List Nat} (h : w.ownsRow base T 1 v l.length (l.map wv)) : WAt T w v l := by
  rcases h.2 with ⟨rfl, hl⟩ | ⟨g, cap, cur, rfl, hb, hg, hc, hm, hs, ht⟩
  · exact .inl ⟨List.eq_nil_of_length_eq_zero hl, _, _, rfl, fun _ => rfl⟩
  · by_cases h0 : l.length = 0
    · exact .inl ⟨List.eq_nil_of_length_eq_zero h0, _, _, by rw [h0], fun h => by simp at h⟩
    · refine .inr ⟨g, 0, cap, rfl, by omega, hc, ⟨cur, hg⟩, fun i hi => ?_⟩
      rw [Nat.zero_add, h.cellAt i (by omega)]
      simp [wv, List.getD_eq_getElem?_getD, hi]
/-- a number without end at an address: its sign, its words -/
def IntAt (T : TypeId) (w : World) (p : Addr) (n : Int) : Prop :=
  ∃ b o neg v l t, p = ⟨b, o, none⟩ ∧ t ≠ T ∧ Ty t w b ∧ w.cell? ⟨b, o, none⟩ = some (.bool neg) ∧ w.cell? ⟨b, o + 1, none⟩ = some v ∧ WAt T w v l ∧ Ok l ∧ Nm l ∧ (neg = true → l ≠ []) ∧ n = if neg then -(val l : Int) else (val l : Int)
theorem IntAt.keep {T : TypeId} {w w' : World} {p : Addr} {n : Int} (h : IntAt T w p n) (k : ∀ b, b < w.heap.size → w'.heap[b]? = w.heap[b]?) : IntAt T w' p n := by
  obtain ⟨b, o, neg, v, l, t, rfl, ht, hty, h1, h2, h3, h4⟩ := h
  have kb := k b hty.lt
  exact ⟨b, o, neg, v, l, t, rfl, ht, hty.keep kb, by rw [World.cell?_of_block (w := w) kb]; exact h1, by rw [World.cell?_of_block (w := w) kb]; exact h2, h3.keep fun b hb => k b hb.lt, h4⟩
theorem IntAt.below {T : TypeId} {w w' : World} {p : Addr} {n : Int} (h : IntAt T w p n) (hb : Below w.heap.size w w') : IntAt T w' p n := h.keep hb.block
end Wd
