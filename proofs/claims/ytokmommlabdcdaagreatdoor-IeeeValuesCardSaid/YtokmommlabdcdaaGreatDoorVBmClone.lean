/- A copy of a list of words: append of any list onto an empty slice of the call's own; at a step of a drawing region too. No conditions. A copy of a list of words that the call owns. No conditions. -/
import Derived.Test.YtokmommlabdcdaaGreatDoorVBm2
import Derived.Laws.OwnMore
import Derived.Deep.AppendLies
set_option linter.unusedVariables false
set_option linter.unusedSimpArgs false
set_option linter.unusedVariables false
set_option linter.unusedSimpArgs false
namespace Wd
open Go Go.RowKit
theorem WAt.news {w : World} {b off : Nat} {l : List Nat} (hl : ∀ i, i < l.length → w.cell? ⟨b, off + i, none⟩ = some (.int .u32 (l.getD i 0 : Nat))) :
    ∀ j u, (l.map wv)[j]? = some u → w.cell? ((⟨b, off, none⟩ : Addr).add j) = some u := fun j u hu => by
  have hadd : (⟨b, off, none⟩ : Addr).add j = ⟨b, off + j, none⟩ := by unfold Addr.add; split <;> simp_all
  rw [List.getElem?_map] at hu
  by_cases hj : j < l.length
  · rw [hadd, hl j hj]
    rw [List.getElem?_eq_getElem hj] at hu
    rw [List.getD_eq_getElem?_getD, List.getElem?_eq_getElem hj]
    exact hu
  · rw [List.getElem?_eq_none (by omega)] at hu
    exact nomatch hu
theorem run_clone {P : Program} (w : World) (t ty e : TypeId) (i : TypeInfo) (z : Value) (ht : P.underlying t = some (.slice e)) (hi : P.info? e = some i) (hz : i.zero = some z)
    (hsize : i.size = 1) (hby : i.bytes = 4) (hzs : z.cells.size = 1) (base : Nat) (d : Value) (hown : w.ownsRow base e 1 d 0 []) (v : Value) (l : List Nat) (hv : WAt e w v l) (hl : l.length ≤ 1099511627776) (hbase : base ≤ w.heap.size) :
    ∃ v' w', (Builtin.append_ #[t, t] ty #[d, v]).run P w = .ok v' w' ∧ WAt e w' v' l ∧ w.grownBy w' d.ownBlock := by
  have h1 : ∀ u ∈ l.map wv, u.oneCell' = true := fun u hu => by
    obtain ⟨x, _, rfl⟩ := List.mem_map.1 hu; rfl
  have main : ∀ ad m c, v = .slice (some ad) m c → m = l.length → (∀ j u, (l.map wv)[j]? = some u → w.cell? (ad.add j) = some u) → ∃ v' w', (Builtin.append_ #[t, t] ty #[d, v]).run P w = .ok v' w' ∧ WAt e w' v' l ∧ w.grownBy w' d.ownBlock := by
    rintro ad m c rfl rfl hn
    obtain ⟨v', w', hr, h2, h3, _, _⟩ := run_append_own_at (P := P) w base t ty e i z 1 4 ht hi hz hsize hby hzs (by decide) d 0 [] hown ad l.length c (l.map wv) (by simp) hn h1 (by unfold maxLen; omega) (by omega) hbase
    refine ⟨v', w', hr, WAt.of_own (base := base) ?_, h3⟩
    rw [Nat.zero_add, List.nil_append] at h2
    exact h2
  rcases hv with ⟨rfl, a, cap, rfl, h0⟩ | ⟨b, off, cap, rfl, hp, hc, hty, hcell⟩
  · cases a with
    | none =>
      have := h0 rfl
      subst this
      refine ⟨d, w, run_append_owned_none w base t ty e i 1 ht hi d 0 [] hown, ?_, ⟨rfl, rfl, rfl, Nat.le_refl _, fun _ _ _ => rfl⟩⟩
      exact WAt.of_own (base := base) (l := []) hown
    | some a => exact main a 0 cap rfl rfl (fun j u hu => by simp at hu)
  · exact main _ _ _ rfl rfl (WAt.news hcell)
theorem step_clone {P : Program} {w : World} {ops : Array Oper} {o : Oper} {a : Act} {K : Act → World → Prop} {Q : Exit → Act → World → Prop} {E : Prop} (hgd : o.guard = none) (s x : Operand) (t : TypeId)
    (ho : o.op = .call { callee := .builtin .append, args := #[s, x], argTypes := #[t, t] })
    (e : TypeId) (i : TypeInfo) (z : Value) (ht : P.underlying t = some (.slice e)) (hi : P.info? e = some i) (hz : i.zero = some z) (hsize : i.size = 1) (hby : i.bytes = 4) (hzs : z.cells.size = 1)
    (base : Nat) (d : Value) (hs : a.eval s = d) (hown : w.ownsRow base e 1 d 0 []) (v : Value) (l : List Nat) (hx : a.eval x = v) (hv : WAt e w v l) (hl : l.length ≤ 1099511627776) (hbase : base ≤ w.heap.size)
    (h : ∀ v' w', WAt e w' v' l → w.grownBy w' d.ownBlock → K (a.put o.dst v') w') :
    if Region.wanted o (yielded ops a.tmps) = true then Oper.wp P o a w K Q else E := by
  have hw : Region.wanted o (yielded ops a.tmps) = true := by simp [Region.wanted, hgd]
  rw [if_pos hw]
  obtain ⟨v', w', hr, h2, h3⟩ := run_clone (P := P) w t o.type e i z ht hi hz hsize hby hzs base d hown v l hv hl hbase
  unfold Oper.wp execOp
  simp only [ho, resolve, invoke, builtin, Sem.run_bind, Sem.run_pure, Result.andThen_ok, List.map_toArray, List.map_cons, List.map_nil, hs, hx, hr]
  exact h v' w' h2 h3
theorem wpList_clone {P : Program} {w : World} {ops : Array Oper} {rest : List Oper} {o : Oper} {a : Act} {Q : Exit → Act → World → Prop} (hgd : o.guard = none) (s x : Operand) (t : TypeId)
    (ho : o.op = .call { callee := .builtin .append, args := #[s, x], argTypes := #[t, t] })
    (e : TypeId) (i : TypeInfo) (z : Value) (ht : P.underlying t = some (.slice e)) (hi : P.info? e = some i) (hz : i.zero = some z) (hsize : i.size = 1) (hby : i.bytes = 4) (hzs : z.cells.size = 1)
    (base : Nat) (d : Value) (hs : a.eval s = d) (hown : w.ownsRow base e 1 d 0 []) (v : Value) (l : List Nat) (hx : a.eval x = v) (hv : WAt e w v l) (hl : l.length ≤ 1099511627776) (hbase : base ≤ w.heap.size)
    (h : ∀ v' w', WAt e w' v' l → w.grownBy w' d.ownBlock → wpList P ops Q rest (a.put o.dst v') w') : wpList P ops Q (o :: rest) a w :=
  wpList_plain hgd fun _ hK => by
    obtain ⟨v', w', hr, h2, h3⟩ := run_clone (P := P) w t o.type e i z ht hi hz hsize hby hzs base d hown v l hv hl hbase
    unfold Oper.wp execOp
    simp only [ho, resolve, invoke, builtin, Sem.run_bind, Sem.run_pure, Result.andThen_ok, List.map_toArray, List.map_cons, List.map_nil, hs, hx, hr]
    exact hK _ _ (h v' w' h2 h3)
end Wd
set_option linter.unusedVariables false
set_option linter.unusedSimpArgs false
namespace Wd
open Go Go.RowKit
theorem run_clone_own {P : Program} (w : World) (t ty e : TypeId) (i : TypeInfo) (z : Value) (ht : P.underlying t = some (.slice e)) (hi : P.info? e = some i) (hz : i.zero = some z)
    (hsize : i.size = 1) (hby : i.bytes = 4) (hzs : z.cells.size = 1) (base : Nat) (d : Value) (hown : w.ownsRow base e 1 d 0 []) (v : Value) (l : List Nat) (hv : WAt e w v l) (hl : l.length ≤ 1099511627776) (hbase : base ≤ w.heap.size) :
    ∃ v' w', (Builtin.append_ #[t, t] ty #[d, v]).run P w = .ok v' w' ∧ w'.ownsRow base e 1 v' l.length (l.map wv) ∧ w.grownBy w' d.ownBlock := by
  have h1 : ∀ u ∈ l.map wv, u.oneCell' = true := fun u hu => by
    obtain ⟨x, _, rfl⟩ := List.mem_map.1 hu; rfl
  have main : ∀ ad m c, v = .slice (some ad) m c → m = l.length → (∀ j u, (l.map wv)[j]? = some u → w.cell? (ad.add j) = some u) → ∃ v' w', (Builtin.append_ #[t, t] ty #[d, v]).run P w = .ok v' w' ∧ w'.ownsRow base e 1 v' l.length (l.map wv) ∧ w.grownBy w' d.ownBlock := by
    rintro ad m c rfl rfl hn
    obtain ⟨v', w', hr, h2, h3, _, _⟩ := run_append_own_at (P := P) w base t ty e i z 1 4 ht hi hz hsize hby hzs (by decide) d 0 [] hown ad l.length c (l.map wv) (by simp) hn h1 (by unfold maxLen; omega) (by omega) hbase
    refine ⟨v', w', hr, ?_, h3⟩
    rw [Nat.zero_add, List.nil_append] at h2
    exact h2
  rcases hv with ⟨rfl, a, cap, rfl, h0⟩ | ⟨b, off, cap, rfl, hp, hc, hty, hcell⟩
  · cases a with
    | none =>
      have := h0 rfl
      subst this
      exact ⟨d, w, run_append_owned_none w base t ty e i 1 ht hi d 0 [] hown, hown, ⟨rfl, rfl, rfl, Nat.le_refl _, fun _ _ _ => rfl⟩⟩
    | some a => exact main a 0 cap rfl rfl (fun j u hu => by simp at hu)
  · exact main _ _ _ rfl rfl (WAt.news hcell)
theorem wpList_clone_own {P : Program} {w : World} {ops : Array Oper} {rest : List Oper} {o : Oper} {a : Act} {Q : Exit → Act → World → Prop} (hgd : o.guard = none) (s x : Operand) (t : TypeId)
    (ho : o.op = .call { callee := .builtin .append, args := #[s, x], argTypes := #[t, t] })
    (e : TypeId) (i : TypeInfo) (z : Value) (ht : P.underlying t = some (.slice e)) (hi : P.info? e = some i) (hz : i.zero = some z) (hsize : i.size = 1) (hby : i.bytes = 4) (hzs : z.cells.size = 1)
    (base : Nat) (d : Value) (hs : a.eval s = d) (hown : w.ownsRow base e 1 d 0 []) (v : Value) (l : List Nat) (hx : a.eval x = v) (hv : WAt e w v l) (hl : l.length ≤ 1099511627776) (hbase : base ≤ w.heap.size)
    (h : ∀ v' w', w'.ownsRow base e 1 v' l.length (l.map wv) → w.grownBy w' d.ownBlock → wpList P ops Q rest (a.put o.dst v') w') : wpList P ops Q (o :: rest) a w :=
  wpList_plain hgd fun _ hK => by
    obtain ⟨v', w', hr, h2, h3⟩ := run_clone_own (P := P) w t o.type e i z ht hi hz hsize hby hzs base d hown v l hv hl hbase
    unfold Oper.wp execOp
    simp only [ho, resolve, invoke, builtin, Sem.run_bind, Sem.run_pure, Result.andThen_ok, List.map_toArray, List.map_cons, List.map_nil, hs, hx, hr]
    exact hK _ _ (h v' w' h2 h3)
end Wd
