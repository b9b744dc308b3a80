/- Contract of surdbig's grown: words of the call's own times a number, and more. -/
import Derived.Test.YtokmommlabdcdaaGreatDoorVBig7
import Derived.Test.YtokmommlabdcdaaGreatDoorVWdStr
import Derived.OwnWalk
import Derived.Laws.OwnMore
set_option linter.unusedVariables false
set_option linter.unusedSimpArgs false
set_option linter.unusedVariables false
set_option linter.unusedSimpArgs false
namespace Go.Proofs.YtokmommlabdcdaaGreatDoor
open Wd Fl Go.RowKit
def GrRet (base : Nat) (l : List Nat) (n : Nat) (w : World) (e : Ending) (w' : World) : Prop :=
  ∃ v l', e = .returned v ∧ w'.ownsRow base TW 1 v l'.length (l'.map wv) ∧ Ok l' ∧ Nm l' ∧ val l' = n ∧ l'.length ≤ l.length + 1 ∧ Below base w w'
theorem GrRet.mk {base n : Nat} {l l' : List Nat} {v : Value} {w w' : World} (h1 : w'.ownsRow base TW 1 v l'.length (l'.map wv)) (h2 : Ok l') (h3 : Nm l') (h4 : val l' = n) (h5 : l'.length ≤ l.length + 1) (h6 : Below base w w') : GrRet base l n w (.returned v) w' := ⟨v, l', rfl, h1, h2, h3, h4, h5, h6⟩
theorem nm_one {k : Nat} (h : k ≠ 0) : Nm [k] := by unfold Nm; simpa using h
set_option maxRecDepth 100000 in
set_option maxHeartbeats 4000000 in
theorem grown_nil (base : Nat) (by_ add : Nat) (w : World) (hb : base ≤ w.heap.size) (hby : by_ < 4294967296) (ha : add < 4294967296) :
    Calls Tryz.prog 71 #[.slice none 0 0, .int .u32 by_, .int .u32 add] w (GrRet base [] add w) := by
  obtain ⟨i0, hi0, hz0, hz1, hz2⟩ := info_parts infoW
  have aI : (add : Int) < 4294967296 := by omega
  by_cases h0 : add = 0
  · subst h0
    go_enter Tryz.func71, Tryz.ntmps71
    go_wp2_with fail
    refine wp_loop_rounds 1 ?_
    rw [rounds_succ]
    go_wp2
    go_ret
    exact GrRet.mk (l' := []) (own_nil _ _ _ _) .nil .nil rfl (by simp) (Below.refl _ _)
  · obtain ⟨c, hc⟩ : ∃ c : Int, (add : Int) = c := ⟨_, rfl⟩
    have a0 : decide ((0 : Int) < c) = true := decide_eq_true (by omega)
    have c1 : c < 4294967296 := by omega
    have c0 : 0 ≤ c := by omega
    have HC := Lib.hid hc
    rw [hc]
    clear hc aI
    go_enter Tryz.func71, Tryz.ntmps71
    go_wp2_with fail
    refine wp_loop_rounds 1 ?_
    rw [rounds_succ]
    go_wp2_with (at_builtin; refine wpList_append_own _ rfl _ _ 58 rfl base TW i0 (.int .u32 0) 1 4 Tryz.underlying58 hi0 hz0 hz1 hz2 rfl (by decide) _ 0 [] rfl (own_nil _ _ _ _) ⟨_, 0, none⟩ 1 1 [.int .u32 c] rfl rfl (World.news_of_block (cs := #[.int .u32 c]) (t := TW) (fr := (0, 0)) (heap_alloc_new _ _)) (by simp [Value.oneCell']) (by unfold maxLen; omega) (by omega) (by simp; omega) ?_; intro v' w1 hown1 hgrow _; have hB := Lib.hid (((Below.refl base w).alloc hb _).grown hgrow (by simp; omega) (fun k hk => by cases hk)); have HO := Lib.hid hown1; clear hown1 hgrow)
    go_ret
    exact GrRet.mk (l' := [add]) (by have := HO.out; rw [← HC.out] at this; exact this) (.cons ha .nil) (nm_one h0) (by simp [val]) (by simp) hB.out
def GrL (l : List Nat) (by_ add n g cap base : Nat) (w : World) (sc si : Value) (wr : World) : Prop :=
  ∃ (i : Nat) (c : Int) (X : List Nat), i ≤ n ∧ sc = .int .u64 c ∧ si = .int .i64 i ∧ GrV l by_ add n i c X ∧ wr.ownsRow base TW 1 (.slice (some ⟨g, 0, none⟩) n cap) n (X.map wv) ∧ Below base w wr
theorem GrL.next {l X : List Nat} {by_ add n g cap base i : Nat} {c T : Int} {w wr : World} (h : GrV l by_ add n i c X) (ho : wr.ownsRow base TW 1 (.slice (some ⟨g, 0, none⟩) n cap) n (X.map wv)) (hb : Below base w wr) (hg : base ≤ g) (hi : i < n) (hn : l.length = n) (ol : Ok l) (hby : by_ < 4294967296)
    (ht : T = (l.getD i 0 : Nat) * (by_ : Int) + c) : GrL l by_ add n g cap base w (.int .u64 (T / 4294967296)) (.int .i64 ((i + 1 : Nat) : Int)) (wr.setCell ⟨g, i, none⟩ (.int .u32 (T % 4294967296))) := by
  obtain ⟨t0, t1, hs⟩ := h.step hi hn ol hby ht
  refine ⟨i + 1, _, _, by omega, rfl, rfl, hs, ?_, hb.setCell hg _⟩
  have := (ho.stored i (.int .u32 (T % 4294967296))).1
  rw [List.map_set]
  unfold wv
  rw [show (((T % 4294967296).toNat : Nat) : Int) = T % 4294967296 by omega]
  exact this
set_option maxRecDepth 100000 in
set_option maxHeartbeats 4000000 in
theorem grown_some (base g cap : Nat) (l : List Nat) (by_ add n : Nat) (w : World) (hn : l.length = n) (hg : base ≤ g) (hcap : n ≤ cap) (ho : w.ownsRow base TW 1 (.slice (some ⟨g, 0, none⟩) n cap) n (l.map wv)) (ok : Ok l) (nm : Nm l) (hl : n ≤ 1000000) (hb : base ≤ w.heap.size) (h0 : 0 < by_) (hby : by_ < 4294967296) (ha : add < 4294967296) :
    Calls Tryz.prog 71 #[.slice (some ⟨g, 0, none⟩) n cap, .int .u32 by_, .int .u32 add] w (GrRet base l (val l * by_ + add) w) := by
  obtain ⟨i0, hi0, hz0, hz1, hz2⟩ := info_parts infoW
  obtain ⟨bI, hbI⟩ : ∃ x : Int, (by_ : Int) = x := ⟨_, rfl⟩
  obtain ⟨aI, haI⟩ : ∃ x : Int, (add : Int) = x := ⟨_, rfl⟩
  rw [hbI, haI]
  have b1 : bI < 4294967296 := by omega
  have b0 : 0 ≤ bI := by omega
  have a1 : aI < 4294967296 := by omega
  have a0 : 0 ≤ aI := by omega
  have HBI := Lib.hid hbI
  have HAI := Lib.hid haI
  have HN := Lib.hid hn; have HG := Lib.hid hg; have HC := Lib.hid hcap; have HO := Lib.hid ho; have OK := Lib.hid ok; have NM := Lib.hid nm; have HL := Lib.hid hl; have HB := Lib.hid hb; have H0 := Lib.hid h0; have HBY := Lib.hid hby; have HA := Lib.hid ha
  have cI : (n : Int) ≤ (cap : Int) := by omega
  clear hbI haI hn hg hcap ho ok nm hl hb h0 hby ha
  go_enter Tryz.func71, Tryz.ntmps71
  go_wp2_with fail
  go_loopw [7, 8] (fun sc si wr => GrL l by_ add n g cap base w sc si wr) (fun _ si _ => n - (intOf si).toNat)
  case atStart => exact ⟨0, aI, l, Nat.zero_le _, rfl, rfl, by rw [← HAI.out]; exact GrV.start HN.out OK.out HA.out, HO.out, Below.refl _ _⟩
  case round =>
    obtain ⟨i, c, X, hi, rfl, rfl, hv, ho, hb⟩ := hrel
    have V := Lib.hid hv
    have O := Lib.hid ho
    have B := Lib.hid hb
    have c0 := hv.c0
    have c1 := hv.c1
    clear hv ho hb
    by_cases hlt : i < n
    · have hlt' : decide ((i : Int) < (n : Int)) = true := decide_eq_true (by omega)
      have hltI : (i : Int) < (n : Int) := by omega
      obtain ⟨y, hy⟩ : ∃ y : Int, ((l.getD i 0 : Nat) : Int) = y := ⟨_, rfl⟩
      have yl := OK.out.get i
      have y0 : 0 ≤ y := by omega
      have y1 : y < 4294967296 := by omega
      have hcell : wr.cell? ⟨g, i, none⟩ = some (.int .u32 y) := by
        rw [O.out.cellAt i (by omega), ← hy, ← V.out.old i (Nat.le_refl _)]
        have : i < X.length := by have := V.out.len; omega
        simp [wv, List.getD_eq_getElem?_getD, this]
      have hfree := O.out.frozenAt i
      obtain ⟨T, hT⟩ : ∃ T : Int, y * bI + c = T := ⟨_, rfl⟩
      have hTe : T = (l.getD i 0 : Nat) * (by_ : Int) + c := by rw [hy, HBI.out, hT]
      obtain ⟨t0, t1, _⟩ := V.out.step hlt HN.out OK.out HBY.out hTe
      have NX := Lib.hid (GrL.next V.out O.out B.out HG.out hlt HN.out OK.out HBY.out hTe)
      have m0 : 0 ≤ y * bI := Int.mul_nonneg y0 b0
      have m1 : IntKind.u64.wrap (y * bI) = y * bI := u64w _ m0 (by omega)
      have m2 : IntKind.u64.wrap (y * bI + c) = T := by rw [hT]; exact u64w _ t0 t1
      have w1 : IntKind.i64.wrap ((i : Int) + 1) = ((i + 1 : Nat) : Int) := by have := HL.out; rw [show ((i + 1 : Nat) : Int) = (i : Int) + 1 by omega]; exact IntWalk.i64_in _ (by omega)
      clear hTe yl hy hT
      go_wp2_with fail
      go_roundw
      case rel => exact NX.out
      case measure => simp [intOf]; omega
    · obtain rfl : i = n := by omega
      have hge : decide ((i : Int) < (i : Int)) = false := decide_eq_false (by omega)
      have V2 := V.out.done HN.out NM.out H0.out
      by_cases h0 : c = 0
      · subst h0
        have D := Lib.hid (V2.1 rfl)
        have XL := Lib.hid V.out.len
        have XO := Lib.hid V.out.ok
        clear hlt V2
        go_wp2_with fail
        go_ret
        exact GrRet.mk (l' := X) (by rw [XL.out]; exact O.out) XO.out D.out.2 D.out.1 (by rw [XL.out, HN.out]; omega) B.out
      · have D := Lib.hid (V2.2 (by omega))
        have XL := Lib.hid V.out.len
        have k0 : decide ((0 : Int) < c) = true := decide_eq_true (by omega)
        clear hlt V2 h0
        go_wp2_with (at_builtin; refine wpList_append_own _ rfl _ _ 58 rfl base TW i0 (.int .u32 0) 1 4 Tryz.underlying58 hi0 hz0 hz1 hz2 rfl (by decide) _ i (X.map wv) rfl (O.out.alloc _) ⟨_, 0, none⟩ 1 1 [.int .u32 c] rfl rfl (World.news_of_block (cs := #[.int .u32 c]) (t := TW) (fr := (0, 0)) (heap_alloc_new _ _)) (by simp [Value.oneCell']) (by unfold maxLen; have := HL.out; omega) (by have := HL.out; omega) (by simp; have := HB.out; have := B.out.size; omega) ?_; intro v' w1 hown1 hgrow _; have hB := Lib.hid ((B.out.alloc (Nat.le_trans HB.out B.out.size) _).grown hgrow (by simp; have := HB.out; have := B.out.size; omega) (own_ge O.out)); have HO1 := Lib.hid hown1; clear hown1 hgrow)
        go_ret
        exact GrRet.mk (l' := X ++ [c.toNat]) (by have := HO1.out; rw [List.length_append, XL.out, List.map_append]; rw [show [c.toNat].map wv = [.int .u32 c] by simp [wv]; omega]; exact this) D.out.2.1 D.out.2.2 D.out.1 (by rw [List.length_append, XL.out, HN.out]; simp) hB.out
/-- surdbig.grown -/
theorem grown_any (base : Nat) (v : Value) (l : List Nat) (by_ add : Nat) (w : World) (ho : w.ownsRow base TW 1 v l.length (l.map wv)) (ok : Ok l) (nm : Nm l) (hl : l.length ≤ 1000000) (hb : base ≤ w.heap.size) (h0 : 0 < by_) (hby : by_ < 4294967296) (ha : add < 4294967296) :
    Calls Tryz.prog 71 #[v, .int .u32 by_, .int .u32 add] w (GrRet base l (val l * by_ + add) w) := by
  rcases ho.2 with ⟨rfl, e⟩ | ⟨g, cap, cur, rfl, hbg, hg, hnc, hcm, hcs, htake⟩
  · have e : l = [] := List.eq_nil_of_length_eq_zero e
    subst e
    have := grown_nil base by_ add w hb hby ha
    simpa [val] using this
  · exact grown_some base g cap l by_ add _ w rfl hbg hnc ho ok nm hl hb h0 hby ha
end Go.Proofs.YtokmommlabdcdaaGreatDoor
