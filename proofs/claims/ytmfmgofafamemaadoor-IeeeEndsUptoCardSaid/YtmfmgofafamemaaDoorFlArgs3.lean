/- Slices of 64-bit words as arguments. -/
import Derived.Test.YtmfmgofafamemaaDoorFlArgs2
import Derived.ChangeSlices
namespace Fl
open Go Go.ChangeShapes Go.WideShapes Go.RowKit Go.Joins Go.Deep
/-- a slice value that reads as a list of words -/
def U64At (w : World) (v : Value) (bs : List Nat) : Prop :=
  (bs = [] ∧ ∃ a cap, v = .slice a 0 cap) ∨
  ∃ b off cap, v = .slice (some ⟨b, off, none⟩) bs.length cap ∧ 0 < bs.length ∧ bs.length ≤ cap ∧ (∀ i, i < bs.length → w.cell? ⟨b, off + i, none⟩ = some (.int .u64 (bs.getD i 0 : Nat)))
def U64Ok (bs : List Nat) : Prop := (∀ x ∈ bs, x < 2 ^ 64) ∧ bs.length ≤ 9223372036854775807
theorem U64At.below {w w' : World} {v : Value} {bs : List Nat} (h : U64At w v bs) (hb : Below w.heap.size w w') : U64At w' v bs := by
  rcases h with h | ⟨b, off, cap, rfl, hpos, hcap, hc⟩
  · exact .inl h
  · have hl : b < w.heap.size := World.block_lt_of_cell? w _ (hc 0 hpos)
    exact .inr ⟨b, off, cap, rfl, hpos, hcap, fun i hi => by rw [hb.cell hl]; exact hc i hi⟩
theorem U64Ok.nil : U64Ok [] := ⟨fun z hz => absurd hz List.not_mem_nil, by decide⟩
theorem U64Ok.get {bs : List Nat} (h : U64Ok bs) (i : Nat) : bs.getD i 0 < 2 ^ 64 := by
  rw [List.getD_eq_getElem?_getD]
  by_cases hk : i < bs.length
  · rw [List.getElem?_eq_getElem hk]; exact h.1 _ (List.getElem_mem hk)
  · rw [List.getElem?_eq_none (by omega)]; decide
section
variable {H : Type} {enc : TypeId × Value → H} {P : Program} {w : World} {base : Nat} {spare : Nat → Bool} {held : Bool}
theorem open_u64s {r : Reach} {b0 : Nat} {t e : TypeId} {v : Value} {d : DataW H} {p : List MemPlace}
    (ht : P.underlying t = some (.slice e)) (hu : P.underlying e = some (.int .u64)) (hC : P.cellsOf e = 1)
    (hv : Value.okWide P w r b0 t v) (h : DataW.Trod enc P w base spare held t v d p) :
    ∃ bs : List Nat, U64At w v bs ∧ U64Ok bs := by
  obtain ⟨a0, len0, cap0, rfl⟩ := okWide_slice ht hv
  obtain ⟨fuel, hf⟩ := h
  rcases open_slice ht hf with ⟨hcs, hx⟩ | ⟨a, len, cap, m, n, D, Pl, hcs, _, hl, hm, hmm, hx, hi⟩
  · simp [Value.cells] at hcs
    obtain ⟨rfl, rfl, rfl⟩ := hcs
    exact ⟨[], .inl ⟨rfl, _, _, rfl⟩, U64Ok.nil⟩
  · simp [Value.cells] at hcs
    obtain ⟨rfl, rfl, rfl⟩ := hcs
    have hlm : len0 ≤ m := by rw [hmm]; split <;> omega
    have key : ∀ i, i < len0 → ∃ z : Nat, w.cell? (a.add i) = some (.int .u64 (z : Nat)) ∧ z < 2 ^ 64 := by
      intro i hi'
      obtain ⟨cs', hc, ht'⟩ := hi i (by omega)
      rw [hC, Nat.mul_one] at hc
      obtain ⟨_, hlen, hat⟩ := World.cells?_some hc
      match cs', hlen with
      | [c0], _ =>
        obtain ⟨x, e0, _, wx⟩ := DataW.trod_int hu ht'
        simp at e0
        subst e0
        obtain ⟨x, rfl, hx⟩ := u64_nat wx
        have q0 := hat 0 (by omega)
        exact ⟨x, by simpa [Addr.add] using q0, hx⟩
    obtain ⟨bs, hbl, hb⟩ := list_of 0 (fun i (z : Nat) => w.cell? (a.add i) = some (.int .u64 (z : Nat)) ∧ z < 2 ^ 64) len0 key
    refine ⟨bs, ?_, ?_, by rw [hbl]; unfold maxLen at hm; omega⟩
    · by_cases h0' : len0 = 0
      · left
        exact ⟨List.eq_nil_of_length_eq_zero (by omega), some a, cap0, by rw [h0']⟩
      · right
        obtain ⟨b, off, spot⟩ := a
        have q := (hb 0 (by omega)).1
        have hspot : spot = none := by simpa [Addr.add] using World.cell?_spot q
        subst hspot
        refine ⟨b, off, cap0, by rw [hbl], by omega, by omega, fun i hi' => ?_⟩
        have q := (hb i (by omega)).1
        have ea : (Addr.mk b off none).add i = ⟨b, off + i, none⟩ := by
          unfold Addr.add; split
          · simp [*]
          · rfl
        rw [ea] at q
        exact q
    · intro z hz
      obtain ⟨i, hi', rfl⟩ := List.getElem_of_mem hz
      have q := (hb i (by omega)).2
      have : bs.getD i 0 = bs[i] := by rw [List.getD_eq_getElem?_getD, List.getElem?_eq_getElem hi']; rfl
      rw [this] at q; exact q
end
end Fl
