/- Numbers without end in memory: where one may be written, and what a write leaves as it was. No conditions. -/
import Derived.Test.YtokmommlabdcdaaGreatDoorVBm
import Derived.Lib.Hide
import Derived.Test.YtokmommlabdcdaaGreatDoorVFlRel
set_option linter.unusedVariables false
set_option linter.unusedSimpArgs false
set_option linter.unusedVariables false
set_option linter.unusedSimpArgs false
namespace Wd
open Go Go.RowKit
/-- n cells from o on, in a block that holds no words, may be written -/
def ZAt (T : TypeId) (w : World) (b o n : Nat) : Prop := ∃ t cur, t ≠ T ∧ w.heap[b]? = some (.cells cur t (0, 0)) ∧ o + n ≤ cur.size
/-- only the cells lo to hi of block b, and new blocks, differ -/
structure Wr (b lo hi : Nat) (w w' : World) : Prop where
  os : w'.os = w.os
  tape : w'.tape = w.tape
  output : w'.output = w.output
  size : w.heap.size ≤ w'.heap.size
  block : ∀ k, k < w.heap.size → k ≠ b → w'.heap[k]? = w.heap[k]?
  own : ∀ cur t, w.heap[b]? = some (.cells cur t (0, 0)) → ∃ cur' : Array Value, w'.heap[b]? = some (.cells cur' t (0, 0)) ∧ cur'.size = cur.size ∧ ∀ o : Nat, o < lo ∨ hi ≤ o → cur'[o]? = cur[o]?
theorem ZAt.lt {T : TypeId} {w : World} {b o n : Nat} (h : ZAt T w b o n) : b < w.heap.size := by
  obtain ⟨t, cur, _, h, _⟩ := h; exact (Array.getElem?_eq_some_iff.1 h).1
theorem ZAt.cell {T : TypeId} {w : World} {b o n : Nat} (h : ZAt T w b o n) (i : Nat) (hi2 : i < o + n) : ∃ v, w.cell? ⟨b, i, none⟩ = some v := by
  obtain ⟨t, cur, _, h, hs⟩ := h
  rw [cell_of_row w b i cur t _ h]
  exact ⟨cur[i]'(by omega), Array.getElem?_eq_getElem (by omega)⟩
theorem ZAt.frozen {T : TypeId} {w : World} {b o n : Nat} (h : ZAt T w b o n) (i : Nat) : w.frozen? ⟨b, i, none⟩ = false := by
  obtain ⟨t, cur, _, h, _⟩ := h; exact frozen_of_row w b i cur t h
theorem ZAt.keep {T : TypeId} {w w' : World} {b o n : Nat} (h : ZAt T w b o n) (e : w'.heap[b]? = w.heap[b]?) : ZAt T w' b o n := by
  obtain ⟨t, cur, h1, h2, h3⟩ := h; exact ⟨t, cur, h1, e.trans h2, h3⟩
theorem ZAt.below {T : TypeId} {w w' : World} {b o n : Nat} (h : ZAt T w b o n) (hb : Below w.heap.size w w') : ZAt T w' b o n := h.keep (hb.block b h.lt)
theorem ZAt.wr {T : TypeId} {w w' : World} {b o n c lo hi : Nat} (h : ZAt T w b o n) (g : Wr c lo hi w w') : ZAt T w' b o n := by
  by_cases e : b = c
  · subst e
    obtain ⟨t, cur, h1, h2, h3⟩ := h
    obtain ⟨cur', e1, e2, _⟩ := g.own cur t h2
    exact ⟨t, cur', h1, e1, by omega⟩
  · exact h.keep (g.block b h.lt e)
theorem ZAt.sub {T : TypeId} {w : World} {b o n : Nat} (h : ZAt T w b o n) (i m : Nat) (hm : i + m ≤ o + n) : ZAt T w b i m := by
  obtain ⟨t, cur, h1, h2, h3⟩ := h; exact ⟨t, cur, h1, h2, by omega⟩
theorem ZAt.new (T : TypeId) (w : World) (cur : Array Value) (t : TypeId) (ht : t ≠ T) (n : Nat) (hn : n ≤ cur.size) : ZAt T (w.alloc (.cells cur t)) w.heap.size 0 n :=
  ⟨t, cur, ht, heap_alloc_new w _, by omega⟩
theorem Wr.refl (b lo hi : Nat) (w : World) : Wr b lo hi w w := ⟨rfl, rfl, rfl, Nat.le_refl _, fun _ _ _ => rfl, fun cur _ h => ⟨cur, h, rfl, fun _ _ => rfl⟩⟩
theorem Wr.trans {b lo hi : Nat} {w w1 w2 : World} (h : Wr b lo hi w w1) (g : Wr b lo hi w1 w2) : Wr b lo hi w w2 := by
  refine ⟨g.os.trans h.os, g.tape.trans h.tape, g.output.trans h.output, Nat.le_trans h.size g.size, fun k hk hb => (g.block k (Nat.lt_of_lt_of_le hk h.size) hb).trans (h.block k hk hb), fun cur t e => ?_⟩
  obtain ⟨c1, a1, a2, a3⟩ := h.own cur t e
  obtain ⟨c2, b1, b2, b3⟩ := g.own c1 t a1
  exact ⟨c2, b1, b2.trans a2, fun o ho => (b3 o ho).trans (a3 o ho)⟩
theorem Wr.mono {b lo hi lo' hi' : Nat} {w w' : World} (h : Wr b lo hi w w') (h1 : lo' ≤ lo) (h2 : hi ≤ hi') : Wr b lo' hi' w w' := by
  refine ⟨h.os, h.tape, h.output, h.size, h.block, fun cur t e => ?_⟩
  obtain ⟨c1, a1, a2, a3⟩ := h.own cur t e
  exact ⟨c1, a1, a2, fun o ho => a3 o (by omega)⟩
theorem Wr.of_below {w w' : World} (b lo hi : Nat) (h : Below w.heap.size w w') : Wr b lo hi w w' := by
  refine ⟨h.os, h.tape, h.output, h.size, fun k hk _ => h.block k hk, fun cur t e => ⟨cur, ?_, rfl, fun _ _ => rfl⟩⟩
  rw [h.block b (Array.getElem?_eq_some_iff.1 e).1]; exact e
theorem Wr.below {b lo hi n : Nat} {w w' : World} (h : Wr b lo hi w w') (hb : n ≤ b) (hn : n ≤ w.heap.size) : Below n w w' :=
  ⟨h.os, h.tape, h.output, h.size, fun k hk => h.block k (by omega) (by omega)⟩
theorem Wr.cell {b lo hi : Nat} {w w' : World} (h : Wr b lo hi w w') {c o : Nat} (hc : c < w.heap.size) (ho : c ≠ b ∨ o < lo ∨ hi ≤ o) (hz : c = b → ∃ cur t, w.heap[b]? = some (.cells cur t (0, 0))) : w'.cell? ⟨c, o, none⟩ = w.cell? ⟨c, o, none⟩ := by
  by_cases e : c = b
  · subst e
    obtain ⟨cur, t, e⟩ := hz rfl
    obtain ⟨c1, a1, a2, a3⟩ := h.own cur t e
    rw [cell_of_row w' c o c1 t _ a1, cell_of_row w c o cur t _ e]
    exact a3 o (by omega)
  · exact World.cell?_of_block (h.block c hc e)
theorem Wr.set {w : World} {b lo hi o : Nat} (v : Value) (h1 : lo ≤ o) (h2 : o < hi) : Wr b lo hi w (w.setCell ⟨b, o, none⟩ v) := by
  have hb := Below.setCell (Below.refl 0 w) (p := ⟨b, o, none⟩) (Nat.zero_le _) v
  refine ⟨hb.os, hb.tape, hb.output, hb.size, fun k hk hb => heap_setCell_other w ⟨b, o, none⟩ k v hb, fun cur t e => ⟨_, heap_setCell_same w b o cur t v e, by simp, fun i hi => ?_⟩⟩
  rw [Array.getElem?_setIfInBounds_ne (by omega)]
theorem Ty.wr {T t : TypeId} {w w' : World} {b c lo hi : Nat} (h : Ty t w b) (g : Wr c lo hi w w') : Ty t w' b := by
  by_cases e : b = c
  · subst e
    obtain ⟨cur, h⟩ := h
    obtain ⟨c1, a1, _⟩ := g.own cur t h
    exact ⟨c1, a1⟩
  · exact h.keep (g.block b h.lt e)
theorem WAt.wr {T : TypeId} {w w' : World} {v : Value} {l : List Nat} {b lo hi o n : Nat} (h : WAt T w v l) (g : Wr b lo hi w w') (hz : ZAt T w b o n) : WAt T w' v l := by
  refine h.keep fun c hc => g.block c hc.lt ?_
  rintro rfl
  obtain ⟨t, cur, h1, h2, _⟩ := hz
  obtain ⟨cur', h3⟩ := hc
  rw [h2] at h3
  injection h3 with h3; injection h3 with _ h3 _
  exact h1 h3
theorem IntAt.z {T : TypeId} {w : World} {b o : Nat} {n : Int} (h : IntAt T w ⟨b, o, none⟩ n) : ZAt T w b o 2 := by
  obtain ⟨b', o', neg, v, l, t, e, ht, ⟨cur, hty⟩, h1, h2, _⟩ := h
  injection e with e1 e2 _
  subst e1 e2
  refine ⟨t, cur, ht, hty, ?_⟩
  rw [cell_of_row w b (o + 1) cur t _ hty] at h2
  have := (Array.getElem?_eq_some_iff.1 h2).1
  omega
theorem IntAt.lt {T : TypeId} {w : World} {b o : Nat} {n : Int} (h : IntAt T w ⟨b, o, none⟩ n) : b < w.heap.size := h.z.lt
/-- a number elsewhere stays -/
theorem IntAt.wr {T : TypeId} {w w' : World} {c p b lo hi o n : Nat} {m : Int} (h : IntAt T w ⟨c, p, none⟩ m) (g : Wr b lo hi w w') (hz : ZAt T w b o n) (ha : c ≠ b ∨ p + 2 ≤ lo ∨ hi ≤ p) : IntAt T w' ⟨c, p, none⟩ m := by
  obtain ⟨b', o', neg, v, l, t, e, ht, hty, h1, h2, h3, h4⟩ := h
  injection e with e1 e2 _
  subst e1 e2
  have hb : c = b → ∃ cur t, w.heap[b]? = some (.cells cur t (0, 0)) := fun _ => by obtain ⟨t, cur, _, e, _⟩ := hz; exact ⟨cur, t, e⟩
  refine ⟨c, p, neg, v, l, t, rfl, ht, hty.wr (T := T) g, ?_, ?_, h3.wr g hz, h4⟩
  · rw [g.cell hty.lt (by omega) hb]; exact h1
  · rw [g.cell hty.lt (by omega) hb]; exact h2
/-- how many bits a whole number has -/
def bl (n : Int) : Nat := blen n.natAbs
theorem blen_mono {a b : Nat} (h : a ≤ b) : blen a ≤ blen b := by
  by_cases h0 : a = 0
  · subst h0; exact Nat.zero_le _
  · have h1 := blen_le h0
    have h2 := blen_lt b
    have h3 : 2 ^ (blen a - 1) < 2 ^ blen b := by omega
    have := (Nat.pow_lt_pow_iff_right (by decide : 1 < 2)).1 h3
    omega
theorem blen_of_lt {a k : Nat} (h : a < 2 ^ k) : blen a ≤ k := by
  by_cases h0 : a = 0
  · subst h0; exact Nat.zero_le _
  · have h1 := blen_le h0
    have h3 : 2 ^ (blen a - 1) < 2 ^ k := by omega
    have := (Nat.pow_lt_pow_iff_right (by decide : 1 < 2)).1 h3
    omega
theorem lt_of_blen {a k : Nat} (h : blen a ≤ k) : a < 2 ^ k := Nat.lt_of_lt_of_le (blen_lt a) (Nat.pow_le_pow_right (by decide) h)
theorem blen_mul (a b : Nat) : blen (a * b) ≤ blen a + blen b := by
  apply blen_of_lt
  rw [Nat.pow_add]
  by_cases h : b = 0
  · subst h; rw [Nat.mul_zero]; exact Nat.mul_pos (Nat.two_pow_pos _) (Nat.two_pow_pos _)
  · exact Nat.mul_lt_mul_of_lt_of_le (blen_lt a) (Nat.le_of_lt (blen_lt b)) (Nat.two_pow_pos _)
theorem blen_add (a b k : Nat) (ha : blen a ≤ k) (hb : blen b ≤ k) : blen (a + b) ≤ k + 1 := by
  apply blen_of_lt
  have := lt_of_blen ha
  have := lt_of_blen hb
  rw [Nat.pow_succ]; omega
theorem blen_pow (k : Nat) : blen (2 ^ k) = k + 1 := blen_unique (.inr (by rw [Nat.add_sub_cancel]; exact Nat.le_refl _)) (Nat.pow_lt_pow_right (by decide) (by omega))
theorem bl_mul (a b : Int) : bl (a * b) ≤ bl a + bl b := by unfold bl; rw [Int.natAbs_mul]; exact blen_mul _ _
theorem bl_add (a b : Int) (k : Nat) (ha : bl a ≤ k) (hb : bl b ≤ k) : bl (a + b) ≤ k + 1 := Nat.le_trans (blen_mono (Int.natAbs_add_le a b)) (blen_add _ _ k ha hb)
theorem bl_neg (a : Int) : bl (-a) = bl a := by unfold bl; rw [Int.natAbs_neg]
/-- how many words -/
theorem len_of_blen {l : List Nat} (nm : Nm l) {k : Nat} (h : blen (val l) ≤ k) : l.length ≤ k / 32 + 1 := by
  refine length_le nm (Nat.lt_of_lt_of_le (lt_of_blen h) ?_)
  rw [pw]
  exact Nat.pow_le_pow_right (by decide) (by omega)
/-- a number of its sign and its words -/
def sgn (neg : Bool) (l : List Nat) : Int := if neg then -(val l : Int) else (val l : Int)
theorem sgn_abs (neg : Bool) (l : List Nat) : (sgn neg l).natAbs = val l := by unfold sgn; split <;> simp
theorem IntAt.open {T : TypeId} {w : World} {b o : Nat} {n : Int} (h : IntAt T w ⟨b, o, none⟩ n) : ∃ neg a cap l, w.cell? ⟨b, o, none⟩ = some (.bool neg) ∧ w.cell? ⟨b, o + 1, none⟩ = some (.slice a l.length cap) ∧
    Hid (WAt T w (.slice a l.length cap) l) ∧ Hid (Ok l) ∧ Hid (Nm l) ∧ Hid (neg = true → l ≠ []) ∧ Hid (n = sgn neg l) ∧ Hid (∀ k, bl n ≤ k → l.length ≤ k / 32 + 1) ∧ b < w.heap.size := by
  obtain ⟨b', o', neg, v, l, t, e, ht, hty, h1, h2, h3, ok, nm, hn, e3⟩ := h
  injection e with e1 e2 _
  subst e1 e2
  obtain ⟨a, cap, rfl⟩ := h3.slice
  have e4 : n = sgn neg l := e3
  refine ⟨neg, a, cap, l, h1, h2, Lib.hid h3, Lib.hid ok, Lib.hid nm, Lib.hid hn, Lib.hid e4, Lib.hid (fun k hk => len_of_blen nm ?_), hty.lt⟩
  unfold bl at hk
  rw [e4, sgn_abs] at hk
  exact hk
theorem IntAt.turn {T : TypeId} {w : World} {b o : Nat} {m : Int} (h : IntAt T w ⟨b, o, none⟩ m) (hm : 0 < m) : IntAt T (w.setCell ⟨b, o, none⟩ (.bool true)) ⟨b, o, none⟩ (-m) := by
  have hz := h.z
  have W1 : Wr b o (o + 1) w (w.setCell ⟨b, o, none⟩ (.bool true)) := Wr.set _ (by omega) (by omega)
  obtain ⟨b', o', neg, v, l, t, e, ht, ⟨cur, hty⟩, h1, h2, h3, ok, nm, hn, e3⟩ := h
  injection e with e1 e2 _
  subst e1 e2
  have hh1 := heap_setCell_same w b o cur t (.bool true) hty
  have hs : o < cur.size := by
    rw [cell_of_row _ _ _ _ _ _ hty] at h1
    exact (Array.getElem?_eq_some_iff.1 h1).1
  have e4 : m = (val l : Int) := by
    cases neg
    · exact e3
    · have := e3; simp only [if_true] at this; omega
  refine ⟨b, o, true, v, l, t, rfl, ht, ⟨_, hh1⟩, ?_, ?_, h3.wr W1 hz, ok, nm, ?_, ?_⟩
  · rw [cell_of_row _ _ _ _ _ _ hh1, Array.getElem?_setIfInBounds_self_of_lt hs]
  · rw [cell_of_row _ _ _ _ _ _ hh1, Array.getElem?_setIfInBounds_ne (by omega), ← cell_of_row _ _ _ _ _ _ hty]; exact h2
  · rintro _ rfl; simp [val] at e4; omega
  · rw [e4]; rfl
/-- what a method that writes one number answers -/
def IntRet (T : TypeId) (b o : Nat) (n : Int) (w : World) (e : Ending) (w' : World) : Prop := e = .returned (.pointer (some ⟨b, o, none⟩)) ∧ IntAt T w' ⟨b, o, none⟩ n ∧ Wr b o (o + 2) w w'
/-- what a function that makes a number answers -/
def NewRet (T : TypeId) (n : Int) (w : World) (e : Ending) (w' : World) : Prop := ∃ b, e = .returned (.pointer (some ⟨b, 0, none⟩)) ∧ w.heap.size ≤ b ∧ IntAt T w' ⟨b, 0, none⟩ n ∧ Below w.heap.size w w'
end Wd
