/- surdlaw0's CopyNums, LendNums, SameNums, SpoilNums, KeptNums. surdlaw0's SameNums, SpoilNums, KeptNums. surdlaw0's KeptNums. -/
import Derived.Test.YtokmommlabdcdaaGreatMCpx
import Derived.Test.YtokmommlabdcdaaGreatMFlArgs2
import Derived.Test.YtokmommlabdcdaaGreatMHorner
import Derived.Laws.OwnMore
import Derived.Deep.AppendLies
import Derived.Deep.RegionHeld3
import Derived.OwnWalk
import Derived.Deep.DeepMust
set_option linter.unusedVariables false
set_option linter.unusedSimpArgs false
set_option linter.unusedVariables false
set_option linter.unusedSimpArgs false
namespace Go.Proofs.YtokmommlabdcdaaGreat
open Wd Fl Go.RowKit
theorem cells_news {w : World} {b off : Nat} {cs : List Cpx} (h : Cells w b off cs) : ∀ j u, (cs.map cv)[j]? = some u → w.cell? ((⟨b, off, none⟩ : Addr).add j) = some u := fun j u hu => by
  have hadd : (⟨b, off, none⟩ : Addr).add j = ⟨b, off + j, none⟩ := by unfold Addr.add; split <;> simp_all
  rw [List.getElem?_map] at hu
  by_cases hj : j < cs.length
  · rw [hadd, h j hj]
    rw [List.getElem?_eq_getElem hj] at hu
    rw [show nth cs j = cs[j] by simp [nth, List.getD_eq_getElem?_getD, List.getElem?_eq_getElem hj]]
    exact hu
  · rw [List.getElem?_eq_none (by omega)] at hu
    exact nomatch hu
theorem run_clone_c {P : Program} (w : World) (t ty e : TypeId) (i : TypeInfo) (z : Value) (ht : P.underlying t = some (.slice e)) (hi : P.info? e = some i) (hz : i.zero = some z)
    (hsize : i.size = 1) (hby : i.bytes = 16) (hzs : z.cells.size = 1) (base : Nat) (d : Value) (hown : w.ownsRow base e 1 d 0 []) (v : Value) (l : List Cpx) (hv : Sl w v l) (hl : l.length * 16 ≤ 140737488351232) (hbase : base ≤ w.heap.size) :
    ∃ v' w', (Builtin.append_ #[t, t] ty #[d, v]).run P w = .ok v' w' ∧ w'.ownsRow base e 1 v' l.length (l.map cv) ∧ w.grownBy w' d.ownBlock := by
  have h1 : ∀ u ∈ l.map cv, u.oneCell' = true := fun u hu => by
    obtain ⟨x, _, rfl⟩ := List.mem_map.1 hu; rfl
  rcases hv with ⟨rfl, rfl⟩ | ⟨b, off, cap, rfl, hc, hcell⟩
  · exact ⟨d, w, run_append_owned_none w base t ty e i 1 ht hi d 0 [] hown, hown, ⟨rfl, rfl, rfl, Nat.le_refl _, fun _ _ _ => rfl⟩⟩
  · obtain ⟨v', w', hr, h2, h3, _, _⟩ := run_append_own_at (P := P) w base t ty e i z 1 16 ht hi hz hsize hby hzs (by decide) d 0 [] hown ⟨b, off, none⟩ l.length cap (l.map cv) (by simp) (cells_news hcell) h1 (by unfold maxLen; omega) (by omega) hbase
    refine ⟨v', w', hr, ?_, h3⟩
    rw [Nat.zero_add, List.nil_append] at h2
    exact h2
theorem wpList_clone_c {P : Program} {w : World} {ops : Array Oper} {rest : List Oper} {o : Oper} {a : Act} {Q : Exit → Act → World → Prop} (hgd : o.guard = none) (s x : Operand) (t : TypeId)
    (ho : o.op = .call { callee := .builtin .append, args := #[s, x], argTypes := #[t, t] })
    (e : TypeId) (i : TypeInfo) (z : Value) (ht : P.underlying t = some (.slice e)) (hi : P.info? e = some i) (hz : i.zero = some z) (hsize : i.size = 1) (hby : i.bytes = 16) (hzs : z.cells.size = 1)
    (base : Nat) (d : Value) (hs : a.eval s = d) (hown : w.ownsRow base e 1 d 0 []) (v : Value) (l : List Cpx) (hx : a.eval x = v) (hv : Sl w v l) (hl : l.length * 16 ≤ 140737488351232) (hbase : base ≤ w.heap.size)
    (h : ∀ v' w', w'.ownsRow base e 1 v' l.length (l.map cv) → w.grownBy w' d.ownBlock → wpList P ops Q rest (a.put o.dst v') w') : wpList P ops Q (o :: rest) a w :=
  wpList_plain hgd fun _ hK => by
    obtain ⟨v', w', hr, h2, h3⟩ := run_clone_c (P := P) w t o.type e i z ht hi hz hsize hby hzs base d hown v l hv hl hbase
    unfold Oper.wp execOp
    simp only [ho, resolve, invoke, builtin, Sem.run_bind, Sem.run_pure, Result.andThen_ok, List.map_toArray, List.map_cons, List.map_nil, hs, hx, hr]
    exact hK _ _ (h v' w' h2 h3)
theorem infoC2 : (Tryz.prog.info? 26).map (fun i => (i.zero, i.size, i.bytes)) = some (some (.complex .f64 0 0), 1, 16) := by kernel_rfl
theorem clone_below1 {w w1 : World} {o : Obj} {n c : Nat} (h : (w.alloc o).grownBy w1 (Value.slice (some ⟨w.heap.size, 0, none⟩) n c).ownBlock) : Below w.heap.size w w1 :=
  (bal (Below.refl _ _)).grown h (by rw [World.size_alloc]; omega) (fun k hk => by simp [Value.ownBlock] at hk; omega)
def CopyRet (cs : List Cpx) (w : World) (e : Ending) (w' : World) : Prop := ∃ v, e = .returned v ∧ w'.ownsRow w.heap.size 26 1 v cs.length (cs.map cv) ∧ Below w.heap.size w w'
set_option maxRecDepth 100000 in
set_option maxHeartbeats 3200000 in
theorem copyNums_any (cs : List Cpx) (v : Value) (w : World) (hv : Sl w v cs) (hl : cs.length * 16 ≤ 140737488351232) :
    Calls Tryz.prog 58 #[v] w (CopyRet cs w) := by
  obtain ⟨i0, hi0, hz0, hz1, hz2⟩ := info_parts infoC2
  have HO := Lib.hid (World.ownsRow_lit (base := w.heap.size) (e := 26) (size := 1) w #[] 0 (Nat.le_refl _) (by decide) rfl)
  have HS := Lib.hid (hv.alloc (.cells #[] 26))
  have HL := Lib.hid hl
  clear hv hl
  go_enter Tryz.func58, Tryz.ntmps58
  go_wp2_with (at_builtin; refine wpList_clone_c (by rfl) (.tmp 3) (.tmp 4) 34 (by rfl) 26 i0 _ Tryz.underlying34 hi0 hz0 hz1 hz2 rfl w.heap.size (.slice (some ⟨w.heap.size, 0, none⟩) 0 0) (by rfl) HO.out v cs (by rfl) HS.out HL.out (by simp) ?_; intro v' w1 hw1 hg1; have hb1 := Lib.hid (clone_below1 hg1); have hw1' := Lib.hid hw1; clear hw1 hg1)
  go_ret
  exact ⟨_, rfl, hw1'.out, hb1.out⟩
def m7 : Cpx := (13842939354630062080, 4619567317775286272)
/-- lent: the numbers, two marks, and room -/
def LentAt (w : World) (g cap : Nat) (cs : List Cpx) : Prop := ∃ cur : Array Value, w.heap[g]? = some (.cells cur 26 (0, 0)) ∧ cs.length + 2 ≤ cap ∧ cur.size = cap ∧ cap ≤ maxLen ∧ cur.toList.take (cs.length + 2) = (cs ++ [m7, m7]).map cv
def LendRet (cs : List Cpx) (w : World) (e : Ending) (w' : World) : Prop := ∃ g cap, e = .returned (.slice (some ⟨g, 0, none⟩) cs.length cap) ∧ LentAt w' g cap cs ∧ w.heap.size ≤ g ∧ Below w.heap.size w w'
theorem LentAt.of_own {w : World} {base g cap : Nat} {cs : List Cpx} (h : w.ownsRow base 26 1 (.slice (some ⟨g, 0, none⟩) (cs.length + 2) cap) (cs.length + 2) (cs.map cv ++ [cv m7, cv m7])) : LentAt w g cap cs ∧ base ≤ g := by
  rcases h.2 with ⟨h, _⟩ | ⟨g', cap', cur, he, hb, hg, hn, hm, hs, ht⟩
  · cases h
  · cases he
    exact ⟨⟨cur, hg, hn, by rw [hs, Nat.mul_one], hm, by rw [Nat.mul_one] at ht; rw [ht]; simp⟩, hb⟩
set_option maxRecDepth 100000 in
set_option maxHeartbeats 3200000 in
theorem lendNums_any (cs : List Cpx) (v : Value) (w : World) (hv : Sl w v cs) (hl : cs.length * 16 ≤ 140737488351232) :
    Calls Tryz.prog 26 #[v] w (LendRet cs w) := by
  obtain ⟨i0, hi0, hz0, hz1, hz2⟩ := info_parts infoC2
  have CP := Lib.hid (copyNums_any cs v w hv hl)
  obtain ⟨a, cap, rfl, _⟩ : ∃ a cap, v = .slice a cs.length cap ∧ True := by
    rcases hv with ⟨rfl, rfl⟩ | ⟨b, off, cap, rfl, _, _⟩
    · exact ⟨_, _, rfl, trivial⟩
    · exact ⟨_, _, rfl, trivial⟩
  have HL := Lib.hid hl
  obtain ⟨n, hn⟩ : ∃ n, cs.length = n := ⟨_, rfl⟩
  have HN := Lib.hid hn
  rw [hn] at CP ⊢
  clear hv hl hn
  go_enter Tryz.func26, Tryz.ntmps26
  go_wp2_with fail
  refine CP.out.mono ?_
  intro e w1 hh
  rcases hh with ⟨v', rfl, ho, hb⟩
  rw [HN.out] at ho
  have HO := Lib.hid ho
  have HB := Lib.hid hb
  clear ho hb
  go_wp2_with (at_builtin; refine wpList_append_lies _ (by rfl) _ _ 34 (by rfl) w.heap.size 26 i0 _ 1 16 Tryz.underlying34 hi0 hz0 hz1 hz2 rfl (by decide) v' n (cs.map cv) (by rfl) (HO.out.alloc _) ⟨w1.heap.size, 0, none⟩ 2 2 [cv m7, cv m7] (by rfl) (by rfl) (World.news_of_block (cs := #[cv m7, cv m7]) (t := 26) (fr := (0, 0)) (heap_alloc_new w1 _)) (by simp [cv, Value.oneCell']) (by decide) (by have := HL.out; have := HN.out; unfold maxLen; omega) (by have := HL.out; have := HN.out; omega) (by simp; have := HB.out.size; omega) _ rfl ?_; intro gg cap' w2 hown1 hgrow hat hlt2; have HG := Lib.hid (LentAt.of_own (cs := cs) (by rw [HN.out]; exact hown1)); have HB2 := Lib.hid ((HB.out.alloc HB.out.size _).grown hgrow (by simp; have := HB.out.size; omega) (own_ge HO.out)); have ncap : n ≤ cap' := (by have h := HG.out.1; obtain ⟨cur, _, hc, _⟩ := h; rw [HN.out] at hc; omega); clear hown1 hgrow hat hlt2)
  go_ret
  exact ⟨gg, cap', by simp [HN.out, Addr.add], HG.out.1, HG.out.2, HB2.out⟩
end Go.Proofs.YtokmommlabdcdaaGreat
set_option linter.unusedVariables false
set_option linter.unusedSimpArgs false
namespace Go.Proofs.YtokmommlabdcdaaGreat
open Wd Fl Go.RowKit
theorem same_self (a b : Nat) : sameCB a b a b = true := sameCB_true (Same.refl _) (Same.refl _)
set_option maxRecDepth 100000 in
set_option maxHeartbeats 3200000 in
theorem sameNums_any (cs : List Cpx) (v u : Value) (w : World) (hv : Sl w v cs) (hu : Sl w u cs) (hl : cs.length * 16 ≤ 140737488351232) :
    Calls Tryz.prog 62 #[v, u] w fun e w' => e = .returned (.bool true) ∧ ∃ n, w' = w.drewN n := by
  have HL := Lib.hid hl
  have HV := Lib.hid hv
  have HU := Lib.hid hu
  obtain ⟨a, cap, rfl, ha⟩ : ∃ a cap, v = .slice a cs.length cap ∧ (0 < cs.length → ∃ b off, a = some ⟨b, off, none⟩ ∧ cs.length ≤ cap ∧ Cells w b off cs) := by
    rcases hv with ⟨rfl, rfl⟩ | ⟨b, off, cap, rfl, h1, h2⟩
    · exact ⟨_, _, rfl, fun h => absurd h (by decide)⟩
    · exact ⟨_, _, rfl, fun _ => ⟨b, off, rfl, h1, h2⟩⟩
  obtain ⟨a', cap', rfl, ha'⟩ : ∃ a cap, u = .slice a cs.length cap ∧ (0 < cs.length → ∃ b off, a = some ⟨b, off, none⟩ ∧ cs.length ≤ cap ∧ Cells w b off cs) := by
    rcases hu with ⟨rfl, rfl⟩ | ⟨b, off, cap, rfl, h1, h2⟩
    · exact ⟨_, _, rfl, fun h => absurd h (by decide)⟩
    · exact ⟨_, _, rfl, fun _ => ⟨b, off, rfl, h1, h2⟩⟩
  have HA := Lib.hid ha
  have HA' := Lib.hid ha'
  have nn : ((cs.length : Int) == (cs.length : Int)) = true := beq_self_eq_true _
  clear hv hu hl ha ha' HV HU
  go_enter Tryz.func62, Tryz.ntmps62
  go_wp2_with fail
  go_loopw [5] (fun si wr => ∃ k n : Nat, k ≤ cs.length ∧ si = .int .i64 (k : Int) ∧ wr = w.drewN n) (fun si _ => cs.length - (intOf si).toNat)
  case atStart => exact ⟨0, 0, Nat.zero_le _, rfl, rfl⟩
  case round =>
    obtain ⟨k, n, hk, rfl, rfl⟩ := hrel
    have HK := Lib.hid hk
    clear hk
    by_cases hlt : k < cs.length
    · obtain ⟨b, off, rfl, hcap, hc⟩ := HA.out (by omega)
      obtain ⟨b', off', rfl, hcap', hc'⟩ := HA'.out (by omega)
      have hlt' : decide ((k : Int) < (cs.length : Int)) = true := decide_eq_true (by omega)
      have hlt2 : (k : Int) < (cs.length : Int) := by omega
      have nc : (cs.length : Int) ≤ (cap : Int) := by omega
      have nc' : (cs.length : Int) ≤ (cap' : Int) := by omega
      obtain ⟨c, hcc⟩ : ∃ c, nth cs k = c := ⟨_, rfl⟩
      have ck0 := hc k hlt
      have ck0' := hc' k hlt
      rw [hcc] at ck0 ck0'
      obtain ⟨c1, c2⟩ := c
      have ck : w.cell? ⟨b, off + k, none⟩ = some (.complex .f64 c1 c2) := ck0
      have ck' : w.cell? ⟨b', off' + k, none⟩ = some (.complex .f64 c1 c2) := ck0'
      have hs := same_self c1 c2
      have hw1 : IntKind.i64.wrap ((k : Int) + 1) = ((k + 1 : Nat) : Int) := by have := HL.out; rw [show ((k + 1 : Nat) : Int) = (k : Int) + 1 by omega]; exact IntWalk.i64_in _ (by omega)
      clear hc hc' hcap hcap' ck0 ck0' hcc
      go_wp2_with fail
      go_region_law ((go_simp; go_at_call 14; (with_reducible refine (sameC_any c1 c2 c1 c2 _).mono ?_); rintro e w' ⟨rfl, rfl⟩))
      all_goals
        go_wp2_with fail
        go_roundw
        case rel => exact ⟨k + 1, _, by omega, rfl, rfl⟩
        case measure => simp [intOf]; omega
    · obtain rfl : k = cs.length := by have := HK.out; omega
      have hge : decide ((cs.length : Int) < (cs.length : Int)) = false := decide_eq_false (by omega)
      clear hlt
      go_wp2_with fail
      go_ret
      exact ⟨rfl, _, rfl⟩
/-- a row of cap numbers, whatever they are -/
def Row (w : World) (g cap : Nat) : Prop := ∃ cur : Array Value, w.heap[g]? = some (.cells cur 26 (0, 0)) ∧ cur.size = cap
theorem Row.wr {w w' : World} {g cap lo hi : Nat} (h : Row w g cap) (k : Wr g lo hi w w') : Row w' g cap := by
  obtain ⟨cur, h1, h2⟩ := h
  obtain ⟨cur', h3, h4, _⟩ := k.own cur _ h1
  exact ⟨cur', h3, h4.trans h2⟩
theorem Row.at {w : World} {g cap k : Nat} (h : Row w g cap) (hk : k < cap) : (∃ v, w.cell? ⟨g, k, none⟩ = some v) ∧ w.frozen? ⟨g, k, none⟩ = false := by
  obtain ⟨cur, h1, rfl⟩ := h
  exact ⟨⟨cur[k], by rw [cell_of_row _ _ _ _ _ _ h1]; simp [hk]⟩, frozen_of_row w g k _ _ h1⟩
set_option maxRecDepth 100000 in
set_option maxHeartbeats 3200000 in
theorem spoilNums_any (g m cap : Nat) (w : World) (h : Row w g cap) (hm : m ≤ cap) (hl : cap ≤ maxLen) :
    Calls Tryz.prog 63 #[.slice (some ⟨g, 0, none⟩) m cap] w fun e w' => (∃ v, e = .returned v) ∧ Wr g 0 cap w w' := by
  have H := Lib.hid h
  have HL := Lib.hid hl
  have mI : (m : Int) ≤ (cap : Int) := by omega
  have cc : (cap : Int) ≤ (cap : Int) := Int.le_refl _
  clear h hl
  go_enter Tryz.func63, Tryz.ntmps63
  go_wp2_with fail
  go_loopw [3] (fun si wr => ∃ k : Nat, k ≤ cap ∧ si = .int .i64 (k : Int) ∧ Wr g 0 cap w wr) (fun si _ => cap - (intOf si).toNat)
  case atStart => exact ⟨0, Nat.zero_le _, rfl, Wr.refl _ _ _ _⟩
  case round =>
    obtain ⟨k, hk, rfl, hw⟩ := hrel
    have HK := Lib.hid hk
    have HW := Lib.hid hw
    clear hk hw
    by_cases hlt : k < cap
    · have hlt' : decide ((k : Int) < (cap : Int)) = true := decide_eq_true (by omega)
      have hlt2 : (k : Int) < (cap : Int) := by omega
      obtain ⟨⟨cv0, hc⟩, hf⟩ := (H.out.wr HW.out).at hlt
      have hw1 : IntKind.i64.wrap ((k : Int) + 1) = ((k + 1 : Nat) : Int) := by have := HL.out; unfold maxLen at this; rw [show ((k + 1 : Nat) : Int) = (k : Int) + 1 by omega]; exact IntWalk.i64_in _ (by omega)
      go_wp2_with fail
      go_roundw
      case rel => exact ⟨k + 1, by omega, rfl, HW.out.trans (Wr.set _ (by omega) hlt)⟩
      case measure => simp [intOf]; omega
    · obtain rfl : k = cap := by have := HK.out; omega
      have hge : decide ((k : Int) < (k : Int)) = false := decide_eq_false (by omega)
      clear hlt
      go_wp2_with fail
      go_end0
      exact ⟨⟨_, rfl⟩, HW.out⟩
end Go.Proofs.YtokmommlabdcdaaGreat
set_option linter.unusedVariables false
set_option linter.unusedSimpArgs false
namespace Go.Proofs.YtokmommlabdcdaaGreat
open Wd Fl Go.RowKit
theorem LentAt.cells {w : World} {g cap : Nat} {cs : List Cpx} (h : LentAt w g cap cs) : Cells w g 0 (cs ++ [m7, m7]) := fun i hi => by
  obtain ⟨cur, hc, hcap, hs, hm, ht⟩ := h
  rw [cell_of_row _ _ _ _ _ _ hc, Nat.zero_add]
  have hl : (cs ++ [m7, m7]).length = cs.length + 2 := by simp
  have e : (cur.toList.take (cs.length + 2))[i]? = some (cv (nth (cs ++ [m7, m7]) i)) := by
    rw [ht, List.getElem?_map, nth, List.getD_eq_getElem?_getD, List.getElem?_eq_getElem hi]
    rfl
  rw [List.getElem?_take, if_pos (by omega)] at e
  simpa using e
theorem LentAt.sl {w : World} {g cap : Nat} {cs : List Cpx} (h : LentAt w g cap cs) : Sl w (.slice (some ⟨g, 0, none⟩) cs.length cap) cs := by
  have hcap : cs.length + 2 ≤ cap := by
    obtain ⟨_, _, hcap, _⟩ := h
    exact hcap
  refine .inr ⟨g, 0, cap, rfl, by omega, fun i hi => ?_⟩
  rw [LentAt.cells h i (by simp; omega)]
  simp [nth, List.getD_eq_getElem?_getD, List.getElem?_append, hi]
theorem LentAt.marks {w : World} {g cap : Nat} {cs : List Cpx} (h : LentAt w g cap cs) : Sl w (.slice (some ⟨g, cs.length, none⟩) 2 (cap - cs.length)) [m7, m7] := by
  have hcap : cs.length + 2 ≤ cap := by
    obtain ⟨_, _, hcap, _⟩ := h
    exact hcap
  refine .inr ⟨g, cs.length, _, rfl, (by show 2 ≤ cap - cs.length; omega), fun i hi => ?_⟩
  have hi2 : i < 2 := hi
  have := LentAt.cells h (cs.length + i) (by simp; omega)
  rw [Nat.zero_add] at this
  rw [this]
  have hn : ¬ cs.length + i < cs.length := by omega
  simp [nth, List.getD_eq_getElem?_getD, List.getElem?_append, hn]
theorem LentAt.row {w : World} {g cap : Nat} {cs : List Cpx} (h : LentAt w g cap cs) : Row w g cap := by
  obtain ⟨cur, h1, _, h2, _⟩ := h
  exact ⟨cur, h1, h2⟩
theorem LentAt.below {w w' : World} {g cap : Nat} {cs : List Cpx} (h : LentAt w g cap cs) (hb : Below w.heap.size w w') : LentAt w' g cap cs := by
  obtain ⟨cur, h1, h2⟩ := h
  exact ⟨cur, (hb.block g (Array.getElem?_eq_some_iff.1 h1).1).trans h1, h2⟩
theorem slLitK (w : World) (cs : List Cpx) (T : TypeId) : Sl (w.alloc (.cells (cs.map cv).toArray T)) (.slice (some ⟨w.heap.size, 0, none⟩) cs.length cs.length) cs := by
  refine .inr ⟨_, 0, _, rfl, Nat.le_refl _, fun i hi => ?_⟩
  rw [cell_of_row _ _ _ _ _ _ (heap_alloc_new w (.cells (cs.map cv).toArray T))]
  simp [nth, List.getD_eq_getElem?_getD, hi]
set_option maxRecDepth 100000 in
set_option maxHeartbeats 3200000 in
theorem keptNums_any (cs : List Cpx) (u : Value) (g cap : Nat) (w : World) (h : LentAt w g cap cs) (hu : Sl w u cs) (hl : cs.length * 16 ≤ 140737488351232) :
    Calls Tryz.prog 29 #[.slice (some ⟨g, 0, none⟩) cs.length cap, u] w fun e w' => e = .returned (.bool true) ∧ Wr g 0 cap w w' := by
  obtain ⟨a, cap2, rfl, _⟩ : ∃ a cap, u = .slice a cs.length cap ∧ True := by
    rcases hu with ⟨rfl, rfl⟩ | ⟨b, off, cap, rfl, h1, h2⟩
    · exact ⟨_, _, rfl, trivial⟩
    · exact ⟨_, _, rfl, trivial⟩
  have H := Lib.hid h
  have S1 := Lib.hid (sameNums_any cs _ _ w h.sl hu hl)
  have HC := Lib.hid (show cs.length + 2 ≤ cap ∧ cap ≤ maxLen by obtain ⟨_, _, h1, _, h2, _⟩ := h; exact ⟨h1, h2⟩)
  have S2 := Lib.hid (fun n (T : TypeId) => sameNums_any [m7, m7] _ _ ((w.drewN n).alloc (.cells #[cv m7, cv m7] T)) ((show Sl (w.drewN n) _ _ from h.marks).alloc _) (slLitK (w.drewN n) [m7, m7] T) (by decide))
  have hc1 := HC.out.1
  have hm1 := HC.out.2
  have nc : (cs.length : Int) ≤ (cap : Int) := by omega
  have nc2 : ((cs.length + 2 : Nat) : Int) ≤ (cap : Int) := by omega
  have nn : (cs.length : Int) ≤ ((cs.length + 2 : Nat) : Int) := by omega
  have n0 : (0 : Int) ≤ ((cs.length + 2 : Nat) : Int) := by omega
  have w1 : IntKind.i64.wrap ((cs.length : Int) + 2) = ((cs.length + 2 : Nat) : Int) := by unfold maxLen at hm1; rw [show ((cs.length + 2 : Nat) : Int) = (cs.length : Int) + 2 by omega]; exact IntWalk.i64_in _ (by omega)
  obtain ⟨n, hn⟩ : ∃ n, cs.length = n := ⟨_, rfl⟩
  have HN := Lib.hid hn
  rw [hn] at S1 S2 nc nc2 nn n0 w1 ⊢
  have k1 : n ≤ cap := by omega
  have k2 : n + 2 ≤ cap := by omega
  have k3 : n ≤ n + 2 := by omega
  clear h hu hl hc1 hm1 hn
  go_enter Tryz.func29, Tryz.ntmps29
  go_wp2_with fail
  refine S1.out.mono ?_
  intro e w2 hh
  rcases hh with ⟨rfl, m1, rfl⟩
  go_wp2_with fail
  refine (S2.out _ _).mono ?_
  intro e w3 hh
  rcases hh with ⟨rfl, m2, rfl⟩
  have R := Lib.hid (show Row (((w.drewN m1).alloc (.cells #[cv m7, cv m7] 26)).drewN m2) g cap by
    obtain ⟨cur, h1, h2⟩ := H.out.row
    exact ⟨cur, (heap_alloc_old (w.drewN m1) _ (Array.getElem?_eq_some_iff.1 h1).1).trans h1, h2⟩)
  go_wp2_with fail
  refine (spoilNums_any g (n + 2) cap _ R.out k2 HC.out.2).mono ?_
  intro e w4 hh
  rcases hh with ⟨⟨z, rfl⟩, hw⟩
  have HW := Lib.hid hw
  clear hw
  go_wp2_with fail
  go_ret
  exact ⟨rfl, (Wr.of_below g 0 cap (below_drewN (bal (below_drewN (Below.refl _ w) _)) _)).trans HW.out⟩
end Go.Proofs.YtokmommlabdcdaaGreat
