/- Slices of structs of two words, and of words, as arguments. -/
import Derived.Test.YtokmommlabdcdaaSFlArgs
import Derived.Test.YtokmommlabdcdaaSFlRel
import Derived.Deep.Slices
import Derived.Deep.Fields
import Derived.SizedLaws
set_option linter.unusedVariables false
set_option linter.unusedSimpArgs false
namespace Fl
open Go Go.ChangeShapes Go.WideShapes Go.RowKit Go.Joins Go.Deep

/-- a slice value that reads as a list of pairs of words -/
def BitsAt (w : World) (v : Value) (bs : List Cpx) : Prop :=
  (bs = [] ∧ ∃ a cap, v = .slice a 0 cap) ∨
  ∃ b off cap, v = .slice (some ⟨b, off, none⟩) bs.length cap ∧ 0 < bs.length ∧ bs.length ≤ cap ∧
    (∀ i, i < bs.length → w.cell? ⟨b, off + i * 2, none⟩ = some (.int .u64 ((nth bs i).1 : Nat)) ∧ w.cell? ⟨b, off + i * 2 + 1, none⟩ = some (.int .u64 ((nth bs i).2 : Nat)))
/-- its words are words; it takes no more room than the machine has -/
def BitsOk (bs : List Cpx) : Prop := (∀ z ∈ bs, z.1 < 2 ^ 64 ∧ z.2 < 2 ^ 64) ∧ bs.length * 16 ≤ 140737488351232

theorem BitsAt.below {w w' : World} {v : Value} {bs : List Cpx} (h : BitsAt w v bs) (hb : Below w.heap.size w w') : BitsAt w' v bs := by
  rcases h with h | ⟨b, off, cap, rfl, hpos, hcap, hc⟩
  · exact .inl h
  · have hl : b < w.heap.size := World.block_lt_of_cell? w _ (hc 0 hpos).1
    exact .inr ⟨b, off, cap, rfl, hpos, hcap, fun i hi => by rw [hb.cell hl, hb.cell hl]; exact hc i hi⟩

theorem BitsOk.nil : BitsOk [] := And.intro (fun z hz => absurd hz List.not_mem_nil) (by decide)

theorem list_of {α : Type} (d : α) (Q : Nat → α → Prop) (n : Nat) (h : ∀ i, i < n → ∃ x, Q i x) : ∃ l : List α, l.length = n ∧ ∀ i, i < n → Q i (l.getD i d) := by
  induction n with
  | zero => exact ⟨[], rfl, fun i hi => absurd hi (by omega)⟩
  | succ n ih =>
    obtain ⟨l, hl, hq⟩ := ih fun i hi => h i (by omega)
    obtain ⟨x, hx⟩ := h n (by omega)
    refine ⟨l ++ [x], by simp [hl], fun i hi => ?_⟩
    by_cases c : i < n
    · rw [List.getD_eq_getElem?_getD, List.getElem?_append_left (by omega), ← List.getD_eq_getElem?_getD]
      exact hq i c
    · obtain rfl : i = n := by omega
      have : (l ++ [x]).getD i d = x := by
        rw [List.getD_eq_getElem?_getD, List.getElem?_append_right (by omega), hl]; simp
      rw [this]; exact hx

section
variable {H : Type} {enc : TypeId × Value → H} {P : Program} {w : World} {base : Nat} {spare : Nat → Bool} {held : Bool}

theorem open_bitss {r : Reach} {b0 : Nat} {t e u : TypeId} {f0 f1 : Field} {v : Value} {d : DataW H} {p : List MemPlace} {ts : List TypeId} {ds : List (DataW H)} {j : Nat}
    (ht : P.underlying t = some (.slice e)) (hs : P.underlying e = some (.struct #[f0, f1])) (hu : P.underlying u = some (.int .u64))
    (hone : oneCellFields P #[f0, f1] = true) (hC : P.cellsOf e = 2) (hby : P.bytesOf e = 16)
    (hv : Value.okWide P w r b0 t v) (h : DataW.Trod enc P w base spare held t v d p)
    (hsz : (DataW.weightsEach P ts ds).all (· ≤ reachBytes) = true) (hj : ts[j]? = some t) (hd : ds[j]? = some d) (h0 : f0.type = u := by rfl) (h1 : f1.type = u := by rfl) :
    ∃ bs : List Cpx, BitsAt w v bs ∧ BitsOk bs := by
  obtain ⟨a0, len0, cap0, rfl⟩ := okWide_slice ht hv
  obtain ⟨fuel, hf⟩ := h
  rcases open_slice ht hf with ⟨hcs, hx⟩ | ⟨a, len, cap, m, n, D, Pl, hcs, _, hl, hm, hmm, hx, hi⟩
  · simp [Value.cells] at hcs
    obtain ⟨rfl, rfl, rfl⟩ := hcs
    exact ⟨[], .inl ⟨rfl, _, _, rfl⟩, BitsOk.nil⟩
  · simp [Value.cells] at hcs
    obtain ⟨rfl, rfl, rfl⟩ := hcs
    simp only [Prod.mk.injEq] at hx
    obtain ⟨rfl, rfl⟩ := hx
    have hlm : len0 ≤ m := by rw [hmm]; split <;> omega
    have hreach : len0 * 16 ≤ 140737488351232 := by
      have := sized_slice hsz hj hd ht
      rw [hby] at this
      simp only [List.length_map, List.length_range, reachBytes] at this
      omega
    have key : ∀ i, i < len0 → ∃ z : Cpx, (w.cell? (a.add (i * 2)) = some (.int .u64 (z.1 : Nat)) ∧ w.cell? ((a.add (i * 2)).add 1) = some (.int .u64 (z.2 : Nat))) ∧ z.1 < 2 ^ 64 ∧ z.2 < 2 ^ 64 := by
      intro i hi'
      obtain ⟨cs', hc, ht'⟩ := hi i (by omega)
      rw [hC] at hc
      obtain ⟨_, hlen, hat⟩ := World.cells?_some hc
      obtain ⟨y0, y1, n', _, _, g0, g1⟩ := trod_struct2 hs ht'
      obtain ⟨o0, k0⟩ := hone_of hone 0 f0 rfl
      obtain ⟨o1, k1⟩ := hone_of hone 1 f1 rfl
      match cs', hlen with
      | [c0, c1], _ =>
        rw [o0, k0, h0] at g0
        rw [o1, k1, h1] at g1
        obtain ⟨x, e0, _, wx⟩ := DataW.trod_int hu g0
        obtain ⟨y, e1, _, wy⟩ := DataW.trod_int hu g1
        simp at e0 e1
        subst e0 e1
        obtain ⟨x, rfl, hx⟩ := u64_nat wx
        obtain ⟨y, rfl, hy⟩ := u64_nat wy
        have q0 := hat 0 (by omega)
        have q1 := hat 1 (by omega)
        exact ⟨(x, y), ⟨by simpa [Addr.add] using q0, by simpa using q1⟩, hx, hy⟩
    obtain ⟨bs, hbl, hb⟩ := list_of (0, 0) (fun i (z : Cpx) => (w.cell? (a.add (i * 2)) = some (.int .u64 (z.1 : Nat)) ∧ w.cell? ((a.add (i * 2)).add 1) = some (.int .u64 (z.2 : Nat))) ∧ z.1 < 2 ^ 64 ∧ z.2 < 2 ^ 64) len0 key
    refine ⟨bs, ?_, ?_, by rw [hbl]; exact hreach⟩
    · by_cases h0' : len0 = 0
      · left
        exact ⟨List.eq_nil_of_length_eq_zero (by omega), some a, cap0, by rw [h0']⟩
      · right
        obtain ⟨b, off, spot⟩ := a
        have q := (hb 0 (by omega)).1.1
        have hspot : spot = none := by simpa [Addr.add] using World.cell?_spot q
        subst hspot
        refine ⟨b, off, cap0, by rw [hbl], by omega, by omega, fun i hi' => ?_⟩
        have q := (hb i (by omega)).1
        have ea : (Addr.mk b off none).add (i * 2) = ⟨b, off + i * 2, none⟩ := by
          unfold Addr.add; split
          · simp [*]
          · rfl
        rw [ea] at q
        exact ⟨q.1, q.2⟩
    · intro z hz
      obtain ⟨i, hi', rfl⟩ := List.getElem_of_mem hz
      have q := (hb i (by omega)).2
      have : bs.getD i (0, 0) = bs[i] := by rw [List.getD_eq_getElem?_getD, List.getElem?_eq_getElem hi']; rfl
      rw [this] at q; exact q
end
end Fl
