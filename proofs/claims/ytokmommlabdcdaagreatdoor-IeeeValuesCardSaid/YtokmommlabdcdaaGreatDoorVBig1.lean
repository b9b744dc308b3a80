/- Contracts of surdbig's functions on lists of words: trimmed, compare, sum, less. Contracts of surdbig's functions on lists of words: compare. -/
import Derived.Test.YtokmommlabdcdaaGreatDoorProg
import Derived.Test.YtokmommlabdcdaaGreatDoorVBm
import Derived.Test.YtokmommlabdcdaaGreatDoorVQuiet
import Derived.Lib.Hide
import Derived.WalkKit
set_option linter.unusedVariables false
set_option linter.unusedSimpArgs false
set_option linter.unusedVariables false
set_option linter.unusedSimpArgs false
namespace Go.Proofs.YtokmommlabdcdaaGreatDoor
open Wd Fl Go.RowKit
abbrev TW : TypeId := 64
/-- what a function that only makes lists answers -/
def WRet (n : Nat) (w : World) (e : Ending) (w' : World) : Prop := ∃ v l, e = .returned v ∧ WAt TW w' v l ∧ Ok l ∧ Nm l ∧ val l = n ∧ Below w.heap.size w w'
theorem WRet.mk {n : Nat} {w w' : World} {v : Value} {l : List Nat} (h : WAt TW w' v l) (ok : Ok l) (nm : Nm l) (hv : val l = n) (hb : Below w.heap.size w w') : WRet n w (.returned v) w' := ⟨v, l, rfl, h, ok, nm, hv, hb⟩
/-- what is left when no 0 is at the end -/
theorem nm_take {l : List Nat} {k : Nat} (hk : k ≤ l.length) (h : k = 0 ∨ l.getD (k - 1) 0 ≠ 0) : Nm (l.take k) := by
  rcases h with rfl | h
  · rw [List.take_zero]; exact Nm.nil
  · cases k with
    | zero => rw [List.take_zero]; exact Nm.nil
    | succ j => rw [take_succ' l j (by omega)]; exact nm_snoc.2 h
def slen : Value → Nat
  | .slice _ n _ => n
  | _ => 0
set_option maxHeartbeats 1000000 in
theorem trimmed_any (v : Value) (l : List Nat) (w : World) (hv : WAt TW w v l) (ok : Ok l) (hl : l.length ≤ 4611686018427387904) :
    Calls Tryz.prog 98 #[v] w (WRet (val l) w) := by
  have HV := Lib.hid hv
  rcases hv with ⟨rfl, a, cap, rfl, -⟩ | ⟨b, off, cap, rfl, h0, hcap, hty, hc⟩
  · go_enter Tryz.func98, Tryz.ntmps98
    go_wp2_with fail
    refine wp_loop_rounds 1 ?_
    rw [rounds_succ]
    go_wp2
    go_ret
    exact WRet.mk HV.out .nil .nil rfl (Below.refl _ _)
  · have OK := Lib.hid ok; have HC := Lib.hid hc
    clear hty hc ok
    generalize hlen : l.length = len at *
    have HL := Lib.hid hlen
    clear hlen
    have p1 : (len : Int) ≤ 4611686018427387904 := by omega
    have p2 : (len : Int) ≤ (cap : Int) := by omega
    go_enter Tryz.func98, Tryz.ntmps98
    go_wp2_with fail
    go_loop [0] (fun s => ∃ k : Nat, k ≤ len ∧ s = .slice (some ⟨b, off, none⟩) k cap ∧ ∀ i, k ≤ i → l.getD i 0 = 0) (fun s => slen s)
    case atStart => exact ⟨len, Nat.le_refl _, rfl, fun i hi => getD_beyond l i (by rw [HL.out]; exact hi)⟩
    case round =>
      obtain ⟨k, hk, rfl, hz⟩ := hrel
      have HZ := Lib.hid hz
      clear hz
      cases k with
      | zero =>
        go_wp2
        go_ret
        exact WRet.mk (HV.out.take 0 (by omega)) (OK.out.take 0) (nm_take (by omega) (.inl rfl)) (take_trim l 0 HZ.out) (Below.refl _ _)
      | succ j =>
        have hcell := HC.out j (by omega)
        have q : (((j + 1 : Nat) : Int) - 1) = (j : Int) := by omega
        have q2 : (0 : Int) < ((j + 1 : Nat) : Int) := by omega
        by_cases hx : l.getD j 0 = 0
        · rw [hx] at hcell
          generalize hm : j + 1 = m at *
          have q3 : (j : Int) < (m : Int) := by omega
          have q4 : (m : Int) ≤ (cap : Int) := by omega
          have HM := Lib.hid hm
          have HX := Lib.hid hx
          clear hm hx
          go_wp2
          go_round
          case rel =>
            refine ⟨j, by have := HM.out; omega, rfl, fun i hi => ?_⟩
            by_cases e : i = j
            · rw [e]; exact HX.out
            · exact HZ.out i (by have := HM.out; omega)
          case measure => have := HM.out; simp [slen]; omega
        · have hx2 : (((l.getD j 0 : Nat) : Int) == 0) = false := by rw [beq_eq_false_iff_ne]; omega
          have hn : Nm (l.take (j + 1)) := nm_take (by rw [HL.out]; exact hk) (.inr (by rw [Nat.add_sub_cancel]; exact hx))
          have ht := take_trim l (j + 1) HZ.out
          have hw := HV.out.take (j + 1) (by rw [HL.out]; exact hk)
          have HN := Lib.hid hn; have HT := Lib.hid ht; have HW := Lib.hid hw
          clear hn ht hw hx
          generalize l.getD j 0 = x at *
          generalize hm : j + 1 = m at *
          have q3 : (j : Int) < (m : Int) := by omega
          have HM := Lib.hid hm
          clear hm
          go_wp2
          go_ret
          exact WRet.mk HW.out (OK.out.take m) HN.out HT.out (Below.refl _ _)
end Go.Proofs.YtokmommlabdcdaaGreatDoor
set_option linter.unusedVariables false
set_option linter.unusedSimpArgs false
namespace Go.Proofs.YtokmommlabdcdaaGreatDoor
open Wd Fl Go.RowKit
def cmpI (m n : Nat) : Int := if m < n then -1 else if n < m then 1 else 0
theorem cmpI_lt {m n : Nat} (h : m < n) : cmpI m n = -1 := if_pos h
theorem cmpI_gt {m n : Nat} (h : n < m) : cmpI m n = 1 := by unfold cmpI; rw [if_neg (by omega), if_pos h]
theorem cmpI_eq (n : Nat) : cmpI n n = 0 := by unfold cmpI; rw [if_neg (by omega), if_neg (by omega)]
/-- a word of a list -/
theorem wcell {w : World} {a : Option Addr} {n cap : Nat} {l : List Nat} (h : WAt TW w (.slice a n cap) l) (h0 : 0 < l.length) :
    n = l.length ∧ ∃ b off, a = some ⟨b, off, none⟩ ∧ l.length ≤ cap ∧ Ty TW w b ∧ ∀ i, i < l.length → w.cell? ⟨b, off + i, none⟩ = some (.int .u32 (l.getD i 0 : Nat)) := by
  rcases h with ⟨rfl, _⟩ | ⟨b, off, cap', e, _, hc, ht, hl⟩
  · simp at h0
  · injection e with e1 e2 e3
    subst e1 e2 e3
    exact ⟨rfl, b, off, rfl, hc, ht, hl⟩
set_option maxHeartbeats 1000000 in
theorem compare_any (va vb : Value) (la lb : List Nat) (w : World) (ha : WAt TW w va la) (hb : WAt TW w vb lb) (oa : Ok la) (ob : Ok lb) (na : Nm la) (nb : Nm lb) (hl : la.length ≤ 4611686018427387904) (hl2 : lb.length ≤ 4611686018427387904) :
    Calls Tryz.prog 51 #[va, vb] w fun e w' => e = .returned (.int .i64 (cmpI (val la) (val lb))) ∧ Below w.heap.size w w' := by
  obtain ⟨aa, ca, rfl⟩ := ha.slice
  obtain ⟨ab, cb, rfl⟩ := hb.slice
  by_cases hlt : la.length < lb.length
  · have hv := cmp_len oa nb hlt
    rw [cmpI_lt hv]
    have q1 : (la.length : Int) < (lb.length : Int) := by omega
    have q2 : ((la.length : Int) == (lb.length : Int)) = false := by rw [beq_eq_false_iff_ne]; omega
    clear ha hb oa ob na nb hv hlt
    generalize la.length = m at *
    generalize lb.length = n at *
    go_enter Tryz.func51, Tryz.ntmps51
    go_wp2_with fail
    go_ret
    exact ⟨rfl, Below.refl _ _⟩
  · by_cases hgt : lb.length < la.length
    · have hv := cmp_len ob na hgt
      rw [cmpI_gt hv]
      have q1 : ¬ (la.length : Int) < (lb.length : Int) := by omega
      have q2 : ((la.length : Int) == (lb.length : Int)) = false := by rw [beq_eq_false_iff_ne]; omega
      clear ha hb oa ob na nb hv hlt hgt
      generalize la.length = m at *
      generalize lb.length = n at *
      go_enter Tryz.func51, Tryz.ntmps51
      go_wp2_with fail
      go_ret
      exact ⟨rfl, Below.refl _ _⟩
    · have hll : la.length = lb.length := by omega
      have HA := Lib.hid ha; have HB := Lib.hid hb; have OA := Lib.hid oa; have OB := Lib.hid ob; have HLL := Lib.hid hll
      have e2 : la.drop la.length = lb.drop la.length := by rw [List.drop_length, hll, List.drop_length]
      have E2 := Lib.hid e2
      clear ha hb oa ob na nb hlt hgt e2
      rw [← hll] at HB ⊢
      clear hl2 hll
      generalize hlen : la.length = len at *
      have HLEN := Lib.hid hlen
      clear hlen
      have p1 : (len : Int) ≤ 4611686018427387904 := by omega
      obtain ⟨R, hR⟩ : ∃ R, cmpI (val la) (val lb) = R := ⟨_, rfl⟩
      rw [hR]
      have HR := Lib.hid hR
      clear hR
      go_enter Tryz.func51, Tryz.ntmps51
      go_wp2_with fail
      go_loopw [5] (fun s wr => ∃ (q : Int) (k : Nat), q = (k : Int) - 1 ∧ k ≤ len ∧ s = .int .i64 q ∧ la.drop k = lb.drop k ∧ Below w.heap.size w wr) (fun s _ => (intOf s + 1).toNat)
      case atStart => exact ⟨_, len, rfl, Nat.le_refl _, rfl, E2.out, Below.refl _ _⟩
      case round =>
        obtain ⟨q, k, hq, hk, rfl, hd, hbl⟩ := hrel
        have HD := Lib.hid hd
        have HQ := Lib.hid hq
        clear hd
        cases k with
        | zero =>
          have q1 : q = -1 := by omega
          have hv : val la = val lb := by have := HD.out; rw [List.drop_zero, List.drop_zero] at this; rw [this]
          have hr : R = 0 := by rw [← HR.out, hv, cmpI_eq]
          have HV := Lib.hid hr
          clear hq hv hr
          subst q1
          go_wp2_with fail
          go_ret
          exact ⟨ret_int HV.out.symm, hbl⟩
        | succ j =>
          have q1 : q = (j : Int) := by omega
          clear hq
          subst q1
          obtain ⟨e1, b1, o1, rfl, c1, t1, f1⟩ := wcell HA.out (by have := HLEN.out; omega)
          obtain ⟨e2, b2, o2, rfl, c2, t2, f2⟩ := wcell HB.out (by have := HLEN.out; have := HLL.out; omega)
          have g1 : wr.cell? ⟨b1, o1 + j, none⟩ = some (.int .u32 (la.getD j 0 : Nat)) := (hbl.cell (p := ⟨b1, o1 + j, none⟩) t1.lt).trans (f1 j (by have := HLEN.out; omega))
          have g2 : wr.cell? ⟨b2, o2 + j, none⟩ = some (.int .u32 (lb.getD j 0 : Nat)) := (hbl.cell (p := ⟨b2, o2 + j, none⟩) t2.lt).trans (f2 j (by have := HLEN.out; have := HLL.out; omega))
          have hjl : (j : Int) < (len : Int) := by omega
          have c1' : (len : Int) ≤ (ca : Int) := by have := HLEN.out; omega
          have c2' : (len : Int) ≤ (cb : Int) := by have := HLEN.out; have := HLL.out; omega
          have cl := fun h => cmp_at (a := la) (b := lb) (k := j) OA.out (HLEN.out.trans HLL.out) (by have := HLEN.out; omega) HD.out h
          have cg := fun h => cmp_at (a := lb) (b := la) (k := j) OB.out (HLEN.out.trans HLL.out).symm (by have := HLEN.out; have := HLL.out; omega) HD.out.symm h
          have ce : la.getD j 0 = lb.getD j 0 → la.drop j = lb.drop j := fun h => by
            rw [drop_cons' la j (by have := HLEN.out; omega), drop_cons' lb j (by have := HLEN.out; have := HLL.out; omega), h, HD.out]
          have CL := Lib.hid cl; have CG := Lib.hid cg; have CE := Lib.hid ce
          clear e1 e2 c1 c2 t1 t2 f1 f2 cl cg ce hk
          generalize la.getD j 0 = x at *
          generalize lb.getD j 0 = y at *
          by_cases hxy : x = y
          · have he := CE.out hxy
            have HE := Lib.hid he
            subst hxy
            clear he
            go_wp2_with fail
            go_quiet (fail)
            go_wp2_with fail
            go_roundw
            case rel => exact ⟨(j : Int) - 1, j, rfl, by omega, rfl, HE.out, by first | exact hbl.drew | exact below_drewN hbl _⟩
            case measure => simp [intOf]
          · have hne : (((x : Nat) : Int) == ((y : Nat) : Int)) = false := by rw [beq_eq_false_iff_ne]; omega
            by_cases hlt : x < y
            · have hv := CL.out hlt
              have hr : R = -1 := by rw [← HR.out, cmpI_lt hv]
              have HV := Lib.hid hr
              have hlt' : (x : Int) < (y : Int) := by omega
              clear hv hxy hlt hr
              go_wp2_with fail
              go_quiet (fail)
              go_wp2_with fail
              go_quiet (fail)
              go_wp2_with fail
              go_ret
              exact ⟨ret_int HV.out.symm, by first | exact hbl.drew | exact below_drewN hbl _ | exact below_drewN (below_drewN hbl _) _⟩
            · have hv := CG.out (by omega)
              have hr : R = 1 := by rw [← HR.out, cmpI_gt hv]
              have HV := Lib.hid hr
              have hlt' : ¬ (x : Int) < (y : Int) := by omega
              clear hv hxy hlt hr
              go_wp2_with fail
              go_quiet (fail)
              go_wp2_with fail
              go_quiet (fail)
              go_wp2_with fail
              go_ret
              exact ⟨ret_int HV.out.symm, by first | exact hbl.drew | exact below_drewN hbl _ | exact below_drewN (below_drewN hbl _) _⟩
end Go.Proofs.YtokmommlabdcdaaGreatDoor
