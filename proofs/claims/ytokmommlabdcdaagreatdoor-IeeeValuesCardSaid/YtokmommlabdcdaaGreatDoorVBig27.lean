/- Contract of surdbig.divide for any divisor: by one word, and word by word from above. Contracts of surdbig's Rat.SetInt, SetFrac (of a denominator above 0), Sign. Powers of two: how long they are, their divisors. -/
import Derived.Test.YtokmommlabdcdaaGreatDoorVBig11
import Derived.Test.YtokmommlabdcdaaGreatDoorVBig7
import Derived.Test.YtokmommlabdcdaaGreatDoorVBig25
import Derived.Test.YtokmommlabdcdaaGreatDoorVBig6
import Derived.Deep.RegionLaw
import Derived.Test.YtokmommlabdcdaaGreatDoorVFlRel
set_option linter.unusedVariables false
set_option linter.unusedSimpArgs false
set_option linter.unusedVariables false
set_option linter.unusedSimpArgs false
namespace Go.Proofs.YtokmommlabdcdaaGreatDoor
open Wd Fl Go.RowKit
theorem pow_of_bits {n t : Nat} (h : TzR n t) (h0 : n ≠ 0) (hb : blen n = t + 1) : n = 2 ^ t := by
  obtain ⟨e, o⟩ := h.split h0
  have h1 := blen_lt n
  rw [hb, Nat.pow_succ] at h1
  generalize n / 2 ^ t = d at *
  have : d < 2 := by
    rw [e] at h1
    exact Nat.lt_of_mul_lt_mul_left h1
  have : d = 1 := by omega
  rw [e, this, Nat.mul_one]
theorem lit1 (w : World) (a : Nat) : WAt TW (w.alloc (.cells #[.int .u32 (a : Int)] TW)) (.slice (some ⟨w.heap.size, 0, none⟩) 1 1) [a] :=
  WAt.of_own (base := w.heap.size) (World.ownsRow_lit (size := 1) w _ 1 (Nat.le_refl _) (by decide) rfl)
set_option maxRecDepth 100000 in
set_option maxHeartbeats 4000000 in
theorem divide_word (va vb : Value) (la : List Nat) (x : Nat) (w : World) (ha : WAt TW w va la) (hb : WAt TW w vb [x]) (oa : Ok la) (ob : Ok [x]) (na : Nm la) (nb : Nm [x]) (hl : la.length ≤ 1099511627776) (hlt : val [x] ≤ val la) (hp : ∀ t, val [x] ≠ 2 ^ t) :
    Calls Tryz.prog 113 #[va, vb] w (DRet (val la / val [x]) (val la % val [x]) w) := by
  have hc : ∃ c : Int, cmpI (val la) (val [x]) = c ∧ 0 ≤ c := by
    refine ⟨_, rfl, ?_⟩
    unfold cmpI; rw [if_neg (by omega)]; split <;> omega
  obtain ⟨c, hc, hc0⟩ := hc
  have hx4 : x < 4294967296 := ob x (by simp)
  have hx0 : 0 < x := by
    rcases Nat.eq_zero_or_pos x with e | e
    · subst e; exact absurd nb (by unfold Nm; simp)
    · exact e
  obtain ⟨av, ab, rfl⟩ := hb.slice
  obtain ⟨e1, b, off, rfl, hcap, ht, hf⟩ := wcell hb (by simp)
  have hf0 := hf 0 (by simp)
  simp only [Nat.add_zero, List.getD_cons_zero, List.length_singleton] at hf0 hcap
  simp only [List.length_singleton] at hb ⊢
  clear e1
  have HA := Lib.hid ha; have HB := Lib.hid hb; have OA := Lib.hid oa; have OB := Lib.hid ob; have NA := Lib.hid na; have NB := Lib.hid nb; have HL := Lib.hid hl
  have HC := Lib.hid hc
  have hcI : (1 : Int) ≤ (ab : Int) := by omega
  have hbl := blen_le_32 hx4
  have HNB : Hid (∀ t, TzR (val [x]) t → (((blen (val [x]) : Nat) : Int) == (t : Int) + 1) = false ∧ (t : Int) ≤ 32) := Lib.hid (fun t ht => by
    rw [val_single] at ht ⊢
    have hne : x ≠ 0 := by omega
    refine ⟨beq_eq_false_iff_ne.2 fun e => ?_, ?_⟩
    · have := pow_of_bits ht hne (by omega)
      rw [val_single] at hp
      exact hp t this
    · have h1 := (ht.split hne).1
      have h2 : 0 < x / 2 ^ t := Nat.pos_of_ne_zero fun e => by have := (ht.split hne).2; rw [e] at this; exact absurd this (by decide)
      have h3 : 2 ^ t ≤ x := by rw [h1]; exact Nat.le_mul_of_pos_right _ h2
      have h4 : 2 ^ t < 2 ^ 32 := Nat.lt_of_le_of_lt h3 (by omega)
      have := (Nat.pow_lt_pow_iff_right (by decide : 1 < 2)).1 h4
      omega)
  have HX0 := Lib.hid hx0; have HX4 := Lib.hid hx4
  have HT := Lib.hid ht
  clear ha hb oa ob na nb hl hlt hc hp hf ht hcap hx4 hx0 hbl
  go_enter Tryz.func113, Tryz.ntmps113
  go_wp2_with fail
  refine (compare_any _ _ la [x] _ HA.out HB.out OA.out OB.out NA.out NB.out (by have := HL.out; omega) (by simp)).mono ?_
  rintro e w5 ⟨rfl, hb5⟩
  rw [HC.out]
  have HB5 := Lib.hid hb5; have HA5 := Lib.hid (HA.out.below hb5); have HBB5 := Lib.hid (HB.out.below hb5)
  have hf5 : w5.cell? ⟨b, off, none⟩ = some (.int .u32 (x : Int)) := (hb5.cell (p := ⟨b, off, none⟩) HT.out.lt).trans hf0
  clear hb5 hf0
  go_wp2_with fail
  refine (ends_any _ [x] _ HBB5.out OB.out (by simp)).mono ?_
  rintro e w6 ⟨t, rfl, ht, rfl⟩
  obtain ⟨tb, tc⟩ := HNB.out t ht
  clear ht
  go_wp2_with fail
  refine (bits_any _ [x] _ HBB5.out OB.out NB.out (by simp)).mono ?_
  rintro e w6 ⟨rfl, rfl⟩
  generalize blen (val [x]) = B at *
  go_wp2_with fail
  refine (small_any _ la x _ HA5.out OA.out HL.out HX0.out HX4.out).mono ?_
  rintro e w7 ⟨v7, l7, rfl, hw7, ok7, nm7, hv7, hb7⟩
  have hq0 : val la % x < 4294967296 := Nat.lt_trans (Nat.mod_lt _ HX0.out) HX4.out
  have HLIT := Lib.hid (lit1 w7 (val la % x))
  have OKR : Hid (Ok [val la % x]) := Lib.hid (.cons hq0 .nil)
  have HB0 := Lib.hid ((Below.refl w7.heap.size w7).alloc (Nat.le_refl _) (.cells #[.int .u32 ((val la % x : Nat) : Int)] TW))
  have HW7 := Lib.hid hw7; have OK7 := Lib.hid ok7; have NM7 := Lib.hid nm7; have HV7 := Lib.hid hv7; have HB7 := Lib.hid hb7
  clear hw7 ok7 nm7 hv7 hb7
  obtain ⟨rr, hrr⟩ : ∃ rr, val la % x = rr := ⟨_, rfl⟩
  have HRR := Lib.hid hrr
  rw [hrr] at HLIT OKR HB0 hq0 ⊢
  clear hrr
  go_wp2_with fail
  refine (trimmed_any _ [rr] _ HLIT.out OKR.out (by simp)).mono ?_
  rintro e w8 ⟨v8, l8, rfl, hw8, ok8, nm8, hv8, hb8⟩
  go_wp2_with fail
  go_ret2
  rw [val_single] at hv8
  have hb9 : Below w7.heap.size w7 w8 := HB0.out.trans (hb8.mono (by simp))
  refine ⟨_, l7, _, l8, rfl, HW7.out.below hb9, OK7.out, NM7.out, by rw [HV7.out, val_single], hw8, ok8, nm8, ?_, HB5.out.trans ((HB7.out.trans (hb9.mono HB7.out.size)).mono HB5.out.size)⟩
  rw [hv8, val_single, HRR.out]
/-- the shift's slot -/
def ShL (x : Nat) (sv : Value) : Prop := ∃ s : Nat, sv = .int .u64 (s : Int) ∧ s ≤ 31 ∧ x * 2 ^ s < 4294967296
theorem ShL.next {x s : Nat} (h0 : 0 < x) (h : x * 2 ^ s < 2147483648) : ShL x (.int .u64 ((s : Int) + 1)) := by
  refine ⟨s + 1, congrArg (Value.int .u64) (by omega), ?_, by rw [Nat.pow_succ, ← Nat.mul_assoc]; omega⟩
  have : 2 ^ s < 2 ^ 31 := Nat.lt_of_le_of_lt (Nat.le_mul_of_pos_left _ h0) h
  have := (Nat.pow_lt_pow_iff_right (by decide : 1 < 2)).1 this
  omega
theorem ShL.lt {x s : Nat} (h0 : 0 < x) (h : x * 2 ^ s < 2147483648) : s < 31 := by
  have : 2 ^ s < 2 ^ 31 := Nat.lt_of_le_of_lt (Nat.le_mul_of_pos_left _ h0) h
  exact (Nat.pow_lt_pow_iff_right (by decide : 1 < 2)).1 this
/-- the dividend, as it lies -/
def UL (U0 n G base : Nat) (w : World) (su : Value) (wr : World) : Prop :=
  ∃ (k : Nat) (L : List Nat), su = .slice (some ⟨G, 0, none⟩) k (n + 1) ∧ n ≤ k ∧ k ≤ n + 1 ∧ L.length = k ∧ wr.ownsRow base TW 1 (.slice (some ⟨G, 0, none⟩) k (n + 1)) k (L.map wv) ∧ Ok L ∧ val L = U0 ∧ Below base w wr
theorem zero_word (L : List Nat) : L.map wv ++ [Value.int .u32 0] = (L ++ [0]).map wv := by rw [List.map_append]; rfl
theorem trimmed_at (av : Option Addr) (cv n : Nat) (l : List Nat) (w : World) (hn : l.length = n) (hv : WAt TW w (.slice av n cv) l) (ok : Ok l) (hl : n ≤ 4611686018427387904) :
    Calls Tryz.prog 98 #[.slice av n cv] w (TrimR av cv l w) := by
  subst hn
  exact trimmed_take av cv l w hv ok hl
theorem digit_at (l m : List Nat) (K Q g off cap b o cv k3 k2 : Nat) (w : World) (H : DigH l m K Q) (hu : UAt w g off l) (hv : WAt TW w (.slice (some ⟨b, o, none⟩) k2 cv) m) (hbg : b ≠ g) (hK : K ≤ 1099511627776) (hcap : k3 ≤ cap) (h3 : k3 = K + 3) (h2 : k2 = K + 2) :
    Calls Tryz.prog 123 #[.slice (some ⟨g, off, none⟩) k3 cap, .slice (some ⟨b, o, none⟩) k2 cv] w (DigRet g off (K + 3) l m w) := by
  subst h3 h2
  exact digit_any l m K Q g off cap b o cv w H hu hv hbg hK hcap
theorem UAt.splice {w w' : World} {g j : Nat} {X l : List Nat} (h : UAt w g 0 X) (hw : Wr g j (j + l.length) w w') (h' : UAt w' g j l) (hle : j + l.length ≤ X.length) : UAt w' g 0 (splice X l j) := by
  refine ⟨h'.1, fun i hi => ?_⟩
  rw [splice_len hle] at hi
  rw [splice_get hle, Nat.zero_add]
  by_cases c : j ≤ i ∧ i < j + l.length
  · rw [if_pos c]
    have := h'.2 (i - j) (by omega)
    rwa [show j + (i - j) = i by omega] at this
  · rw [if_neg c, hw.cell h.1.lt (by omega) (fun _ => by obtain ⟨cur, hc⟩ := h.1; exact ⟨cur, TW, hc⟩)]
    have := h.2 i hi
    rwa [Nat.zero_add] at this
theorem UAt.keep {w w' : World} {g off : Nat} {X : List Nat} (h : UAt w g off X) (e : w'.heap[g]? = w.heap[g]?) : UAt w' g off X :=
  ⟨h.1.keep e, fun i hi => by rw [World.cell?_of_block (w := w) e]; exact h.2 i hi⟩
theorem UAt.take {w : World} {g off : Nat} {X : List Nat} (h : UAt w g off X) (k : Nat) : UAt w g off (X.take k) :=
  ⟨h.1, fun i hi => by
    rw [List.length_take] at hi
    rw [h.2 i (by omega), List.getD_eq_getElem?_getD, List.getD_eq_getElem?_getD, List.getElem?_take, if_pos (by omega)]⟩
theorem UAt.drop {w : World} {g off : Nat} {X : List Nat} (h : UAt w g off X) (k : Nat) : UAt w g (off + k) (X.drop k) :=
  ⟨h.1, fun i hi => by
    rw [List.length_drop] at hi
    rw [Nat.add_assoc, h.2 (k + i) (by omega), List.getD_eq_getElem?_getD, List.getD_eq_getElem?_getD, List.getElem?_drop]⟩
theorem ownsRow_keep {w w' : World} {base g n cap : Nat} {e : TypeId} {xs : List Value} (h : w.ownsRow base e 1 (.slice (some ⟨g, 0, none⟩) n cap) n xs) (k : w'.heap[g]? = w.heap[g]?) : w'.ownsRow base e 1 (.slice (some ⟨g, 0, none⟩) n cap) n xs := by
  refine ⟨h.1, ?_⟩
  rcases h.2 with ⟨e1, _⟩ | ⟨g', cap', cur, e1, hbg, hg, hr⟩
  · injection e1 with e1; exact nomatch e1
  · injection e1 with e1 e2 e3
    injection e1 with e1
    injection e1 with e1 _ _
    subst e1 e3
    exact .inr ⟨g, cap, cur, rfl, hbg, k.trans hg, hr⟩
theorem UAt.of_own {w : World} {base g n cap : Nat} {L : List Nat} (h : w.ownsRow base TW 1 (.slice (some ⟨g, 0, none⟩) n cap) n (L.map wv)) (hl : L.length = n) (h0 : 0 < n) : UAt w g 0 L := by
  have h2 := h
  rw [← hl] at h2
  exact UAt.of (WAt.of_own (base := base) h2) (by omega)
/-- the main loop's slot and world -/
def ML (U0 nq G Gq base : Nat) (V : List Nat) (w : World) (sj : Value) (wr : World) : Prop :=
  ∃ (t : Nat) (X Q : List Nat), sj = .int .i64 ((t : Int) - 1) ∧ DivV U0 nq V t X Q ∧ UAt wr G 0 X ∧ wr.ownsRow Gq TW 1 (.slice (some ⟨Gq, 0, none⟩) nq nq) nq (Q.map wv) ∧ Below base w wr
theorem ML.next {U0 nq G Gq base t K : Nat} {V X Q l : List Nat} {w wr w' : World} {q j' : Int} (hD : DivV U0 nq V (t + 1) X Q) (hU : UAt wr G 0 X) (ho : wr.ownsRow Gq TW 1 (.slice (some ⟨Gq, 0, none⟩) nq nq) nq (Q.map wv)) (hb : Below base w wr)
    (oV : Ok V) (hK : V.length = K + 2) (hT : 2147483648 ≤ V.getD (K + 1) 0) (hl : l.length = K + 3) (ol : Ok l) (hm : val l = val ((X.drop t).take (K + 3)) % val V) (hw : Wr G t (t + (K + 3)) wr w') (hu : UAt w' G t l)
    (hne : Gq ≠ G) (hG : base ≤ G) (hGq : base ≤ Gq) (hs : base ≤ wr.heap.size) (hq : q = ((val ((X.drop t).take (K + 3)) / val V : Nat) : Int)) (hj : j' = (t : Int) - 1) :
    ML U0 nq G Gq base V w (.int .i64 j') (w'.setCell ⟨Gq, t, none⟩ (.int .u32 q)) := by
  have hg := hD.dig oV hK hT
  obtain ⟨_, _, a3⟩ := hD.above oV
  have hst := hD.step oV hK hl ol hm hg.Qlt
  subst hq hj
  have hGqs : Gq < wr.heap.size := (ho.lt Gq rfl).2
  have hk : w'.heap[Gq]? = wr.heap[Gq]? := hw.block Gq hGqs hne
  have ho' := ownsRow_keep ho hk
  have hb' : Below base w w' := hb.trans (hw.below hG hs)
  refine ⟨t, _, _, rfl, hst, ?_, ?_, hb'.setCell (p := ⟨Gq, t, none⟩) hGq _⟩
  · refine (UAt.splice hU (by rw [hl]; exact hw) hu (by rw [hl]; rw [hK] at a3; omega)).keep ?_
    exact heap_setCell_other w' ⟨Gq, t, none⟩ G _ (Ne.symm hne)
  · rw [List.map_set]
    exact (ho'.stored t (wv _)).1
set_option maxRecDepth 100000 in
set_option maxHeartbeats 8000000 in
theorem divide_long (va vb : Value) (la r : List Nat) (x K : Nat) (w : World) (ha : WAt TW w va la) (hb : WAt TW w vb (r ++ [x])) (oa : Ok la) (ob : Ok (r ++ [x])) (na : Nm la) (nb : Nm (r ++ [x])) (hl : la.length ≤ 1099511627776) (hr : r.length = K + 1) (hlt : val (r ++ [x]) ≤ val la) (hp : ∀ t, val (r ++ [x]) ≠ 2 ^ t) :
    Calls Tryz.prog 113 #[va, vb] w (DRet (val la / val (r ++ [x])) (val la % val (r ++ [x])) w) := by
  obtain ⟨i0, hi0, hz0, hz1, hz2⟩ := info_parts infoW
  have hc : ∃ c : Int, cmpI (val la) (val (r ++ [x])) = c ∧ 0 ≤ c := by
    refine ⟨_, rfl, ?_⟩
    unfold cmpI; rw [if_neg (by omega)]; split <;> omega
  obtain ⟨c, hc, hc0⟩ := hc
  have hx4 : x < 4294967296 := ob x (by simp)
  have hx0 : 0 < x := Nat.pos_of_ne_zero (nm_snoc.1 nb)
  obtain ⟨av, ab, rfl⟩ := hb.slice
  obtain ⟨e1, b, off, rfl, hcap, ht, hf⟩ := wcell hb (by simp)
  have hbl : (r ++ [x]).length = K + 2 := by rw [List.length_append, hr]; rfl
  have hf0 := hf (K + 1) (by omega)
  have hgx : (r ++ [x]).getD (K + 1) 0 = x := by rw [← hr]; simp [List.getD_eq_getElem?_getD]
  rw [hgx] at hf0
  rw [hbl] at hb hcap ⊢
  have hla : K + 2 ≤ la.length := by
    rcases Nat.lt_or_ge la.length (K + 2) with c1 | c1
    · have := cmp_len oa nb (by omega : la.length < (r ++ [x]).length)
      omega
    · exact c1
  have HLA := Lib.hid hla
  obtain ⟨M, hM⟩ : ∃ M, r ++ [x] = M := ⟨_, rfl⟩
  have HMM := Lib.hid hM
  rw [hM] at hb ob nb hlt hp hc hbl ⊢
  have HA := Lib.hid ha; have HB := Lib.hid hb; have OA := Lib.hid oa; have OB := Lib.hid ob; have NA := Lib.hid na; have NB := Lib.hid nb; have HL := Lib.hid hl
  have HC := Lib.hid hc; have HR := Lib.hid hr; have HBL := Lib.hid hbl
  have HNB : Hid (∀ t, TzR (val M) t → (((blen (val M) : Nat) : Int) == (t : Int) + 1) = false ∧ (t : Int) ≤ 100000000000000) := Lib.hid (fun t ht => by
    have hne : val M ≠ 0 := by rw [← hM, val_snoc]; have := Nat.mul_pos (pw_pos r.length) hx0; omega
    refine ⟨beq_eq_false_iff_ne.2 fun e => hp t (pow_of_bits ht hne (by omega)), ?_⟩
    have h1 := (ht.split hne).1
    have h2 : 0 < val M / 2 ^ t := Nat.pos_of_ne_zero fun e => by have := (ht.split hne).2; rw [e] at this; exact absurd this (by decide)
    have h3 : 2 ^ t ≤ val M := by
      have := Nat.le_mul_of_pos_right (2 ^ t) h2
      rwa [← h1] at this
    have h4 := val_lt ob
    rw [pw] at h4
    have := (Nat.pow_lt_pow_iff_right (by decide : 1 < 2)).1 (Nat.lt_of_le_of_lt h3 h4)
    omega)
  have HX0 := Lib.hid hx0; have HX4 := Lib.hid hx4
  have HT := Lib.hid ht; have HLT := Lib.hid hlt
  obtain ⟨m, hm⟩ : ∃ m, K + 2 = m := ⟨_, rfl⟩
  obtain ⟨m1, hm1⟩ : ∃ m1, K + 1 = m1 := ⟨_, rfl⟩
  rw [hm] at hcap HB HBL ⊢
  rw [hm1] at hf0
  have HM := Lib.hid hm; have HM1 := Lib.hid hm1
  have p1 : (m : Int) - 1 = (m1 : Int) := by omega
  have p2 : (m1 : Int) < (m : Int) := by omega
  have p3 : (m : Int) ≤ (ab : Int) := by omega
  have p4 : ((m : Int) == 1) = false := by rw [beq_eq_false_iff_ne]; omega
  have p5 : (m : Int) ≤ 1099511627776 := by omega
  obtain ⟨xI, hxI⟩ : ∃ xI : Int, (x : Int) = xI := ⟨_, rfl⟩
  rw [hxI] at hf0
  have x1 : 0 ≤ xI := by omega
  have x2 : xI < 4294967296 := by omega
  have HXI := Lib.hid hxI
  clear ha hb oa ob na nb hl hlt hc hp hf ht hcap hx4 hx0 hbl hr hM hla hm hm1 hgx e1 hxI
  go_enter Tryz.func113, Tryz.ntmps113
  go_wp2_with fail
  refine (compare_any _ _ la M _ HA.out HB.out OA.out OB.out NA.out NB.out (by have := HL.out; omega) (by have := HL.out; have := HBL.out; have := HLA.out; have := HM.out; omega)).mono ?_
  rintro e w5 ⟨rfl, hb5⟩
  rw [HC.out]
  have HB5 := Lib.hid hb5; have HA5 := Lib.hid (HA.out.below hb5); have HBB5 := Lib.hid (HB.out.below hb5)
  have hf5 : w5.cell? ⟨b, off + m1, none⟩ = some (.int .u32 xI) := (hb5.cell (p := ⟨b, off + m1, none⟩) HT.out.lt).trans hf0
  clear hb5 hf0
  go_wp2_with fail
  refine (ends_any _ M _ HBB5.out OB.out (by have := HL.out; have := HBL.out; have := HLA.out; have := HM.out; omega)).mono ?_
  rintro e w6 ⟨t, rfl, ht, rfl⟩
  obtain ⟨tb, tc⟩ := HNB.out t ht
  clear ht
  go_wp2_with fail
  refine (bits_any _ M _ HBB5.out OB.out NB.out (by have := HL.out; have := HBL.out; have := HLA.out; have := HM.out; omega)).mono ?_
  rintro e w6 ⟨rfl, rfl⟩
  generalize blen (val M) = B at *
  go_wp2_with fail
  clear tb
  go_loop [9] (fun sv => ShL x sv) (fun sv => (31 - intOf sv).toNat)
  case atStart => exact ⟨0, rfl, by omega, by rw [Nat.pow_zero, Nat.mul_one]; exact HX4.out⟩
  case round =>
    obtain ⟨s, rfl, hs, hxs⟩ := hrel
    obtain ⟨Y, hY⟩ : ∃ Y : Int, xI * 2 ^ s % 4294967296 = Y := ⟨_, rfl⟩
    have hY2 : Y = ((x * 2 ^ s : Nat) : Int) := by
      rw [← hY, ← HXI.out, show (2 : Int) ^ s = ((2 ^ s : Nat) : Int) by rw [Int.natCast_pow]; rfl, ← Int.natCast_mul]
      generalize x * 2 ^ s = z at *
      omega
    have HY2 := Lib.hid hY2; have HXS := Lib.hid hxs; have HS := Lib.hid hs
    have sI : (s : Int) ≤ 31 := by omega
    clear hY2 hxs hs
    by_cases hc31 : Y < 2147483648
    · have d1 : decide (Y < 2147483648) = true := decide_eq_true hc31
      have nx := ShL.next (s := s) HX0.out (by have := HY2.out; omega)
      have NX := Lib.hid nx
      have s31 : (s : Int) < 31 := by have := ShL.lt (s := s) HX0.out (by have := HY2.out; omega); omega
      clear nx
      go_wp2_with fail
      go_round
      case rel => exact NX.out
      case measure => simp [intOf]; omega
    · have d1 : decide (Y < 2147483648) = false := decide_eq_false hc31
      have hge : 2147483648 ≤ x * 2 ^ s := by have := HY2.out; omega
      have HGE := Lib.hid hge
      clear hge
      go_wp2_with fail
      clear d1 hc31 hf5
      refine (up_any _ M s _ HBB5.out OB.out (by have := HL.out; have := HBL.out; have := HLA.out; have := HM.out; omega) (by have := HS.out; omega)).mono ?_
      rintro e w6 ⟨v6, V, rfl, hw6, ok6, nm6, hv6, hb6⟩
      have hsl := shl_len (r := r) (v := V) (x := x) (s := s) (fun y hy => OB.out y (by rw [← HMM.out]; exact List.mem_append.2 (.inl hy))) ok6 nm6 HGE.out HXS.out (by have := HS.out; omega) (by rw [hv6, HMM.out])
      rw [HR.out] at hsl
      obtain ⟨a6, c6, rfl⟩ := hw6.slice
      rw [hsl.1] at hw6 ⊢
      rw [show K + 1 + 1 = m by rw [HM.out]] at hw6 ⊢
      have HVW := Lib.hid hw6; have OK6 := Lib.hid ok6; have NM6 := Lib.hid nm6; have HV6 := Lib.hid hv6; have HB6 := Lib.hid (HB5.out.trans (hb6.mono HB5.out.size)); have HA6 := Lib.hid (HA5.out.below hb6); have HSL := Lib.hid hsl
      clear hw6 ok6 nm6 hv6 hb6 hsl
      go_wp2_with fail
      refine (up_own _ la s _ HA6.out OA.out HL.out (by have := HS.out; omega) (by intro e; have := HLA.out; rw [e] at this; simp at this)).mono ?_
      rintro e w7 ⟨G, L, rfl, ho7, ok7, nm7, hv7, hb7⟩
      have hul := shl_len_u (s := s) OA.out NA.out (by intro e; have := HLA.out; rw [e] at this; simp at this) ok7 nm7 (by have := HS.out; omega) hv7
      have hGw := ho7.lt G rfl
      have HGW := Lib.hid hGw; have HO7 := Lib.hid ho7; have OK7 := Lib.hid ok7; have HV7 := Lib.hid hv7; have HB7 := Lib.hid hb7; have HUL := Lib.hid hul
      clear hGw ho7 ok7 nm7 hv7 hb7 hul
      obtain ⟨aa, ca, hva⟩ := HA.out.slice
      subst hva
      obtain ⟨n, hn⟩ : ∃ n, la.length = n := ⟨_, rfl⟩
      obtain ⟨Ln, hLn⟩ : ∃ k, L.length = k := ⟨_, rfl⟩
      rw [hn] at HLA HL HO7 HUL
      rw [hn]
      rw [hLn] at HO7 HUL
      rw [hLn]
      have HN := Lib.hid hn; have HLn := Lib.hid hLn
      clear hn hLn
      go_wp2_with fail
      obtain ⟨base, hbase⟩ : ∃ k, w6.heap.size = k := ⟨_, rfl⟩
      rw [hbase] at HO7 HGW HB7
      have HBASE := Lib.hid hbase
      clear hbase
      have hGb := HGW.out
      have HUV : Hid (val L = val la * 2 ^ s) := HV7
      obtain ⟨U0, hU0⟩ : ∃ U0, val la * 2 ^ s = U0 := ⟨_, rfl⟩
      rw [hU0] at HUV HV7
      have HU0 := Lib.hid hU0
      clear hU0
      have n1 : (n : Int) ≤ 1099511627776 := by have := HL.out; omega
      go_loopw [11] (fun su wr => UL U0 n G base w6 su wr) (fun su _ => n + 1 - slen su)
      case atStart => exact ⟨Ln, L, rfl, HUL.out.1, HUL.out.2, HLn.out, HO7.out, OK7.out, HUV.out, HB7.out⟩
      case round =>
        obtain ⟨k, L1, rfl, hk1, hk2, hl1, ho1, ok1, hv1, hb1⟩ := hrel
        have HO1 := Lib.hid ho1; have OK1 := Lib.hid ok1; have HV1 := Lib.hid hv1; have HB1 := Lib.hid hb1; have HL1 := Lib.hid hl1
        have kI : (k : Int) ≤ 1099511627777 := by omega
        clear ho1 ok1 hv1 hb1 hl1
        by_cases hkn : k ≤ n
        · have d2 : decide (k ≤ n) = true := decide_eq_true hkn
          have hlt := HO1.out.lt G rfl
          have HLT1 := Lib.hid hlt
          clear hlt
          go_wp2_with (at_builtin; go_loud (refine wpList_append_fits _ rfl _ _ 58 rfl base TW i0 1 Tryz.underlying58 hi0 hz1 G k (n + 1) (L1.map wv) rfl (HO1.out.alloc _) ⟨_, 0, none⟩ 1 1 [.int .u32 0] rfl rfl (World.news_of_block (cs := #[.int .u32 0]) (t := TW) (fr := (0, 0)) (heap_alloc_new _ _)) (by simp [Value.oneCell']) (by omega) ?_))
          intro w2 ho2 hgr
          have hb2 : Below base w6 w2 := Below.grown (HB1.out.alloc (by have := HLT1.out; omega) _) hgr (by simp; have := HLT1.out; omega) (fun k hk => by cases hk; exact HLT1.out.1)
          rw [zero_word] at ho2
          have HO2 := Lib.hid ho2; have HB2 := Lib.hid hb2
          clear ho2 hb2 hgr
          go_wp2_with fail
          go_roundw
          case rel => exact ⟨k + 1, L1 ++ [0], rfl, by omega, by omega, by rw [List.length_append, HL1.out]; rfl, HO2.out, OK1.out.snoc (by decide), by rw [val_snoc, Nat.mul_zero, Nat.add_zero, HV1.out], HB2.out⟩
          case measure => simp [slen]; omega
        · have hk : k = n + 1 := by omega
          have d2 : decide (k ≤ n) = false := decide_eq_false (by omega)
          obtain ⟨nq, hnq⟩ : ∃ nq, k - m = nq := ⟨_, rfl⟩
          have hmn : m ≤ n := by have := HLA.out; have := HM.out; omega
          have q1 : (k : Int) - (m : Int) = (nq : Int) := by omega
          have q2 : (1 : Int) ≤ (nq : Int) := by omega
          have q3 : (nq : Int) ≤ 1099511627777 := by omega
          have q4 : (nq : Int) + (m : Int) = (k : Int) := by omega
          have hGl := HO1.out.lt G rfl
          have HGL := Lib.hid hGl
          have HK := Lib.hid hk; have HNQ := Lib.hid hnq; have HMN := Lib.hid hmn
          clear hGl hnq hkn hmn
          rw [← hk] at HO1
          rw [← hk]
          clear hk hk1 hk2
          go_wp2_with (refine wpList_make_full _ rfl _ _ _ rfl wr.heap.size TW i0 (.int .u32 0) 1 Tryz.underlying58 hi0 hz0 hz1 .i64 .i64 _ _ nq rfl rfl rfl rfl (by rw [hz2]; omega) (by unfold maxLen; omega) (Nat.le_refl _) ?_)
          intro w8 ho8 hg8
          rw [made_words] at ho8
          obtain ⟨Gq, hGq⟩ : ∃ k, wr.heap.size = k := ⟨_, rfl⟩
          rw [hGq] at ho8
          have hB8 : Below Gq wr w8 := (Below.refl _ _).grown hg8 (by omega) (fun k hk => by cases hk)
          have HO8 := Lib.hid ho8; have HB8 := Lib.hid hB8; have HGQ := Lib.hid hGq
          clear ho8 hg8 hB8
          rw [hGq]
          clear hGq
          go_wp2_with fail
          have hGG : Gq ≠ G := by have := HGL.out.2; have := HGQ.out; omega
          have hbG : base ≤ G := HGL.out.1
          have hbGq : base ≤ Gq := by have := HGL.out.2; have := HGQ.out; omega
          have hDst : DivV U0 nq V nq L1 (List.replicate nq 0) := DivV.start (by rw [HL1.out, HSL.out.1]; have := HM.out; omega) OK1.out HV1.out (by
            rw [← HU0.out]
            exact start_small (lb := K + 1) OA.out (by have := HS.out; omega) HSL.out.1 (by have := HN.out; have := HK.out; have := HNQ.out; have := HM.out; omega) HSL.out.2 rfl)
          have hU8 : UAt w8 G 0 L1 := (UAt.of_own HO1.out HL1.out (by omega)).keep (HB8.out.block G (by have := HGL.out.2; have := HGQ.out; omega))
          have hB68 : Below base w6 w8 := HB1.out.trans (HB8.out.mono hbGq)
          obtain ⟨e6, b6, o6, ha6, qc6, ty6, fV6⟩ := wcell HVW.out (by rw [HSL.out.1]; omega)
          have hb6b : b6 < base := by have := ty6.lt; have := HBASE.out; omega
          have hb6G : b6 ≠ G := by omega
          subst ha6
          have HDST := Lib.hid hDst; have HU8 := Lib.hid hU8; have HB68 := Lib.hid hB68; have HGG := Lib.hid hGG; have HBG := Lib.hid hbG; have HBGQ := Lib.hid hbGq; have HB6B := Lib.hid hb6b; have HB6G := Lib.hid hb6G
          have qc6' : (m : Int) ≤ (c6 : Int) := by rw [HSL.out.1] at qc6; have := HM.out; omega
          clear hGG hbG hbGq hDst hU8 hB68 e6 qc6 ty6 fV6 hb6b hb6G
          go_loopw [14] (fun sj wr2 => ML U0 nq G Gq base V w6 sj wr2) (fun sj _ => (intOf sj + 1).toNat)
          case atStart => exact ⟨nq, L1, _, rfl, HDST.out, HU8.out, HO8.out, HB68.out⟩
          case round =>
            obtain ⟨t1, X, Q, rfl, hD, hU, ho, hb⟩ := hrel
            have HD := Lib.hid hD; have HU := Lib.hid hU; have HO := Lib.hid ho; have HBB := Lib.hid hb
            have htn := hD.ht
            have hsz : base ≤ wr.heap.size := by have := hb.size; have := HBASE.out; omega
            have HSZ := Lib.hid hsz
            clear hD hU ho hb hsz
            cases t1 with
            | succ j =>
              have w1 : ((j + 1 : Nat) : Int) - 1 = (j : Int) := by omega
              rw [w1]
              have d3 : decide ((0 : Int) ≤ (j : Int)) = true := decide_eq_true (by omega)
              have j1 : (j : Int) < (nq : Int) := by omega
              have j2 : (j : Int) + (m : Int) + 1 ≤ (k : Int) := by omega
              have j3 : j + m + 1 - j = m + 1 := by omega
              have hg := HD.out.dig OK6.out (by rw [HSL.out.1]) HSL.out.2
              have hu : UAt wr G j ((X.drop j).take (K + 3)) := by
                have := (HU.out.drop j).take (K + 3)
                rwa [Nat.zero_add] at this
              have hvw : WAt TW wr (.slice (some ⟨b6, o6, none⟩) m c6) V := HVW.out.below (by have := HBASE.out; rw [this]; exact HBB.out)
              have HDG := Lib.hid hg; have HUJ := Lib.hid hu; have HVWR := Lib.hid hvw
              clear hg hu hvw w1
              go_wp2_with fail
              refine (digit_at _ _ K _ G j (k - j) b6 o6 c6 (m + 1) m wr HDG.out HUJ.out HVWR.out HB6G.out (by have := HM.out; have := HLA.out; omega) (by omega) (by have := HM.out; omega) HM.out.symm).mono ?_
              rintro e w9 ⟨rfl, hw9, l9, hl9, ol9, hv9, hu9⟩
              have gq1 := HO.out.lt Gq rfl
              have hk9 : w9.heap[Gq]? = wr.heap[Gq]? := hw9.block Gq gq1.2 HGG.out
              have ho9 := ownsRow_keep HO.out hk9
              have c9 : w9.cell? ⟨Gq, j, none⟩ = some (.int .u32 (Q.getD j 0 : Nat)) := by
                rw [ho9.cellAt j (by omega)]
                have : j < Q.length := by rw [HD.out.hQ]; omega
                simp [wv, List.getD_eq_getElem?_getD, this]
              have f9 := ho9.frozenAt j
              have nx := Lib.hid (fun q j' h1 h2 => ML.next (q := q) (j' := j') HD.out HU.out HO.out HBB.out OK6.out (by rw [HSL.out.1]) HSL.out.2 hl9 ol9 hv9 hw9 hu9 HGG.out HBG.out HBGQ.out HSZ.out h1 h2)
              have hqb : ((val ((X.drop j).take (K + 3)) / val V : Nat) : Int) < 4294967296 := by
                have := HDG.out.Qlt
                generalize val ((X.drop j).take (K + 3)) / val V = z at *
                omega
              obtain ⟨qI, hqI⟩ : ∃ qI : Int, ((val ((X.drop j).take (K + 3)) / val V : Nat) : Int) = qI := ⟨_, rfl⟩
              have hq0 : 0 ≤ qI := by rw [← hqI]; exact Int.natCast_nonneg _
              rw [hqI] at hqb ⊢
              have HQI := Lib.hid hqI
              clear hw9 hl9 ol9 hv9 hu9 gq1 hk9 ho9 hqI
              go_wp2_with fail
              go_roundw
              case rel => exact nx.out _ _ HQI.out.symm rfl
              case measure => simp [intOf]
            | zero =>
              have d3 : decide ((0 : Int) ≤ ((0 : Nat) : Int) - 1) = false := rfl
              obtain ⟨hq, hx⟩ := HD.out.done
              have hlow := HD.out.low OK6.out
              have hXl := HD.out.hX
              have hQl := HD.out.hQ
              have hdiv := shl_div (A := val la) (b := val M) (s := s)
              rw [← HV6.out, HU0.out, ← hx, ← hq] at hdiv
              have hWQ : WAt TW wr (.slice (some ⟨Gq, 0, none⟩) Q.length nq) Q := by
                have := WAt.of_own (base := Gq) (v := .slice (some ⟨Gq, 0, none⟩) nq nq) (T := TW) (l := Q) (w := wr) (by rw [hQl]; exact HO.out)
                rw [hQl]; exact this
              have hXm : (X.take m).length = m := by rw [List.length_take]; have := HSL.out.1; have := HM.out; omega
              have hWU : WAt TW wr (.slice (some ⟨G, 0, none⟩) (X.take m).length k) (X.take m) := (HU.out.take m).wat (by have := HM.out; omega) (by omega)
              rw [hQl] at hWQ
              rw [hXm] at hWU
              have HWQ := Lib.hid hWQ; have HWU := Lib.hid hWU; have HQL := Lib.hid hQl; have HXM := Lib.hid hXm; have HDIV := Lib.hid hdiv; have OKQ := Lib.hid HD.out.oQ; have OKX := Lib.hid (HD.out.oX.take m)
              have HLOW : Hid (val (X.take m) = val X) := Lib.hid (by have := hlow; rw [HSL.out.1] at this; rw [← this, ← HM.out])
              have mk : (m : Int) ≤ (k : Int) := by omega
              clear hq hx hlow hXl hQl hdiv hWQ hWU hXm
              go_wp2_with fail
              have W1 : Hid (WAt TW wr.drew (.slice (some ⟨Gq, 0, none⟩) nq nq) Q) := Lib.hid (HWQ.out.below (Below.refl _ wr).drew)
              have W2 : Hid (WAt TW wr.drew (.slice (some ⟨G, 0, none⟩) m k) (X.take m)) := Lib.hid (HWU.out.below (Below.refl _ wr).drew)
              have C1 : Hid (Calls Tryz.prog 98 #[.slice (some ⟨Gq, 0, none⟩) nq nq] wr.drew (TrimR (some ⟨Gq, 0, none⟩) nq Q wr.drew)) := Lib.hid (trimmed_at _ nq nq Q _ HQL.out W1.out OKQ.out (by omega))
              have C2 : Hid (Calls Tryz.prog 98 #[.slice (some ⟨G, 0, none⟩) m k] wr.drew (TrimR (some ⟨G, 0, none⟩) k (X.take m) wr.drew)) := Lib.hid (trimmed_at _ k m (X.take m) _ HXM.out W2.out OKX.out (by omega))
              have C3 : Hid (∀ k2, k2 ≤ (X.take m).length → Calls Tryz.prog 121 #[.slice (some ⟨G, 0, none⟩) k2 k, .int .u64 (s : Int)] wr.drew (WRet (val ((X.take m).take k2) / 2 ^ s) wr.drew)) := Lib.hid (fun k2 hk2 => down_any _ _ s _ (W2.out.take k2 hk2) (OKX.out.take k2) (by rw [List.length_take]; have := HXM.out; omega) (by have := HS.out; omega))
              clear q1 q3 q4 d3
              go_region_law (first | (go_simp; go_at_call 98; with_reducible refine C1.out.mono ?_; intro e w10 h10; unfold TrimR at h10; rcases h10 with ⟨k1, hk1, he, hww, nm1, hv1⟩; subst he; subst hww; have HK1 := Lib.hid hk1; have NM1 := Lib.hid nm1; have HV1' := Lib.hid hv1; clear hk1 nm1 hv1) | (go_simp; go_at_call 98; with_reducible refine C2.out.mono ?_; intro e w11 h11; unfold TrimR at h11; rcases h11 with ⟨k2, hk2, he, hww, nm2, hv2⟩; subst he; subst hww; have HK2 := Lib.hid hk2; have NM2 := Lib.hid nm2; have HV2 := Lib.hid hv2; clear hk2 nm2 hv2) | (go_simp; go_at_call 121; with_reducible refine (C3.out _ HK2.out).mono ?_; intro e w12 h12; unfold WRet at h12; rcases h12 with ⟨v5, l5, he, hw5, ok5, nm5, hv5, hb5⟩; subst he; have HW5 := Lib.hid hw5; have OK5 := Lib.hid ok5; have NM5 := Lib.hid nm5; have HV5 := Lib.hid hv5; have HB5' := Lib.hid hb5; clear hw5 ok5 nm5 hv5 hb5))
              all_goals
                go_wp2_with fail
                go_ret2
                have hbw : Below w.heap.size w wr := HB6.out.trans ((HBASE.out ▸ HBB.out : Below w6.heap.size w6 wr).mono HB6.out.size)
                have hb9 : Below wr.heap.size wr w12 := ⟨HB5'.out.os, HB5'.out.tape, HB5'.out.output, HB5'.out.size, HB5'.out.block⟩
                exact ⟨_, Q.take k1, v5, l5, rfl, (HWQ.out.take k1 HK1.out).below hb9, OKQ.out.take k1, NM1.out, HV1'.out.trans HDIV.out.1, HW5.out, OK5.out, NM5.out, by rw [HV5.out, HV2.out, HLOW.out]; exact HDIV.out.2, hbw.trans (hb9.mono hbw.size)⟩
/-- the lists' division, whatever they are -/
theorem divC_any {a b : Nat} (hb : 0 < b) (hb2 : blen b ≤ 1000000) : DivC a b := by
  by_cases hlt : a < b
  · exact DivC.lt hlt
  · by_cases hp : ∃ k, k ≤ 1099511627776 ∧ b = 2 ^ k
    · obtain ⟨k, hk, rfl⟩ := hp
      exact DivC.pow k hk
    · by_cases hp2 : ∃ k, b = 2 ^ k
      · obtain ⟨k, rfl⟩ := hp2
        rw [blen_pow] at hb2
        exact absurd ⟨k, by omega, rfl⟩ hp
      · intro va vb la lb w h1 h2 h3 h4 h5 h6 h7 h8 h9 h10
        subst h9 h10
        have hne : lb ≠ [] := by rintro rfl; simp [val] at hb
        obtain ⟨r, x, rfl⟩ := snoc_of_ne hne
        cases hr : r.length with
        | zero =>
          have : r = [] := List.eq_nil_of_length_eq_zero hr
          subst this
          simp only [List.nil_append] at *
          exact divide_word va vb la x w h1 h2 h3 h4 h5 h6 h7 (by omega) (fun t e => hp2 ⟨t, e⟩)
        | succ K => exact divide_long va vb la r x K w h1 h2 h3 h4 h5 h6 h7 hr (by omega) (fun t e => hp2 ⟨t, e⟩)
end Go.Proofs.YtokmommlabdcdaaGreatDoor
set_option linter.unusedVariables false
set_option linter.unusedSimpArgs false
namespace Go.Proofs.YtokmommlabdcdaaGreatDoor
open Wd Fl Go.RowKit
/-- what a method that writes a fraction answers -/
def RatRet (b : Nat) (q : Rat) (w : World) (e : Ending) (w' : World) : Prop := e = .returned (.pointer (some ⟨b, 0, none⟩)) ∧ RatAt w' b q ∧ Wr b 0 4 w w'
theorem znew (w : World) : ZAt TW (w.alloc (.cells #[.bool false, .slice none 0 0] 60)) w.heap.size 0 2 := ZAt.new TW w _ _ (by decide) 2 (by decide)
theorem znewr (w : World) : ZAt TW (w.alloc (.cells #[.bool false, .slice none 0 0, .bool false, .slice none 0 0] 71)) w.heap.size 0 4 := ZAt.new TW w _ _ (by decide) 4 (by decide)
theorem bnew (w : World) (c : Obj) : Below w.heap.size w (w.alloc c) := (Below.refl _ _).alloc (Nat.le_refl _) _
theorem newW {w w1 : World} {c : Obj} {n : Nat} (h : Wr w.heap.size 0 n (w.alloc c) w1) : Below w.heap.size w w1 := (bnew w c).trans (h.below (Nat.le_refl _) (by simp))
theorem RatAt.below {w w' : World} {b : Nat} {x : Rat} (h : RatAt w b x) (hb : Below w.heap.size w w') : RatAt w' b x := ⟨h.1.below hb, h.2.below hb⟩
theorem RatAt.z {w : World} {b : Nat} {x : Rat} (h : RatAt w b x) : b < w.heap.size := h.1.lt
theorem ZAt.gt {T : TypeId} {w w' : World} {b o n : Nat} (h : ZAt T w b o n) (hb : Below w.heap.size w w') : b < w'.heap.size := Nat.lt_of_lt_of_le h.lt hb.size
theorem ratAt_int {w : World} {b : Nat} {n : Int} (h1 : IntAt TW w ⟨b, 0, none⟩ n) (h2 : IntAt TW w ⟨b, 2, none⟩ 0) : RatAt w b (n : Rat) := ⟨by rw [Rat.num_intCast]; exact h1, by rw [Rat.den_intCast, if_pos rfl]; exact h2⟩
set_option maxRecDepth 100000 in
set_option maxHeartbeats 2000000 in
theorem setInt_any (bz ba oa : Nat) (n : Int) (w : World) (hz : ZAt TW w bz 0 4) (ha : IntAt TW w ⟨ba, oa, none⟩ n) (hn : bl n ≤ 100000) :
    Calls Tryz.prog 52 #[.pointer (some ⟨bz, 0, none⟩), .pointer (some ⟨ba, oa, none⟩)] w (RatRet bz (n : Rat) w) := by
  have HZ := Lib.hid hz
  have HA := Lib.hid ha
  have HN := Lib.hid hn
  clear hz ha hn
  go_enter Tryz.func52, Tryz.ntmps52
  go_wp2_with fail
  refine (iset_any w.heap.size 0 ba oa n _ (znew w) (HA.out.below (bnew w _)) HN.out).mono ?_
  rintro e w1 ⟨rfl, hi, hr⟩
  have hb := newW hr
  have hz := HZ.out.below hb
  obtain ⟨neg, a, cap, l, h1, h2, H3, OK, NM, HNN, HE, HK, N1⟩ := IntAt.open hi
  have HB := Lib.hid hb
  have hne : w.heap.size ≠ bz := Nat.ne_of_gt HZ.out.lt
  obtain ⟨x0, c0⟩ := hz.cell 0 (by omega)
  obtain ⟨x1, c1⟩ := hz.cell 1 (by omega)
  obtain ⟨x2, c2⟩ := hz.cell 2 (by omega)
  obtain ⟨x3, c3⟩ := hz.cell 3 (by omega)
  have f0 := hz.frozen 0
  have f1 := hz.frozen 1
  have f2 := hz.frozen 2
  have f3 := hz.frozen 3
  have HZ1 := Lib.hid hz
  clear hi hr hb hz
  go_wp2_with fail
  go_ret
  have hz := HZ1.out
  have z0 : ZAt TW w1 bz 0 2 := hz.sub 0 2 (by omega)
  have i1 := put2_int (n := n) z0 H3.out OK.out NM.out HNN.out HE.out
  have W1 := put2_wr w1 bz 0 (.bool neg) (.slice a l.length cap)
  have z1 : ZAt TW (put2 w1 bz 0 (.bool neg) (.slice a l.length cap)) bz 2 2 := (hz.sub 2 2 (by omega)).wr W1
  have i2 := put2_zero z1
  have W2 := put2_wr (put2 w1 bz 0 (.bool neg) (.slice a l.length cap)) bz 2 (.bool false) (.slice none 0 0)
  exact ⟨rfl, ratAt_int (i1.wr W2 z1 (by omega)) i2, (Wr.of_below _ _ _ HB.out).trans ((W1.mono (by omega) (by omega)).trans (W2.mono (by omega) (by omega)))⟩
/-- a fraction's sign -/
theorem rsign_any (b : Nat) (x : Rat) (w : World) (hx : RatAt w b x) (hn : bl x.num ≤ 100000) :
    Calls Tryz.prog 56 #[.pointer (some ⟨b, 0, none⟩)] w fun e w' => e = .returned (.int .i64 (sigI x.num)) ∧ w = w' := by
  have H := Lib.hid (isign_any b 0 x.num w hx.1 hn)
  clear hx hn
  go_enter Tryz.func56, Tryz.ntmps56
  go_wp2_with fail
  refine H.out.mono ?_
  rintro e w1 ⟨rfl, rfl⟩
  go_wp2_with fail
  go_ret
  exact ⟨rfl, rfl⟩
theorem mkRat_parts (n : Int) {d : Nat} (hd : 0 < d) : (mkRat n d).num = n.tdiv (Nat.gcd n.natAbs d : Nat) ∧ ((mkRat n d).den : Int) = (d : Int).tdiv (Nat.gcd n.natAbs d : Nat) := by
  have hg : (Nat.gcd n.natAbs d : Int) ∣ n := by
    have : Nat.gcd n.natAbs d ∣ n.natAbs := Nat.gcd_dvd_left _ _
    rw [← Int.dvd_natAbs]
    exact Int.natCast_dvd_natCast.2 this
  rw [Rat.num_mkRat, Rat.den_mkRat, if_neg (Nat.ne_of_gt hd), if_neg (Nat.ne_of_gt hd), Nat.gcd_comm d]
  refine ⟨?_, ?_⟩
  · rw [Int.tdiv_eq_ediv_of_dvd hg]
  · rw [Int.ofNat_tdiv]
theorem bl_tdiv (a b : Int) : bl (a.tdiv b) ≤ bl a := by
  unfold bl
  rw [Int.natAbs_tdiv]
  exact blen_mono (Nat.div_le_self _ _)
theorem tdiv_one_g {n : Int} {g : Nat} (h : g = 1) : n.tdiv (g : Int) = n := by rw [h]; exact Int.tdiv_one n
theorem bl_gcd {n d B : Nat} (hd : 0 < d) (h : bl (d : Int) ≤ B) : bl ((Nat.gcd n d : Nat) : Int) ≤ B := by
  unfold bl at *
  rw [Int.natAbs_natCast] at *
  exact Nat.le_trans (blen_mono (Nat.gcd_le_right n hd)) h
theorem divG {n d B : Nat} (hd : 0 < d) (h : bl (d : Int) ≤ B) (hB : B ≤ 1000000) (a : Int) : DivC a.natAbs ((Nat.gcd n d : Nat) : Int).natAbs := by
  have := bl_gcd (n := n) hd h
  rw [Int.natAbs_natCast]
  unfold bl at this
  rw [Int.natAbs_natCast] at this
  exact divC_any (Nat.gcd_pos_of_pos_right n hd) (by omega)
theorem pos_open {w : World} {b o : Nat} {n : Int} (h : IntAt TW w ⟨b, o, none⟩ n) (hn : 0 < n) : w.cell? ⟨b, o, none⟩ = some (.bool false) := by
  obtain ⟨neg, a, cap, l, h1, h2, H3, OK, NM, HNN, HE, HK, N1⟩ := IntAt.open h
  cases neg
  · exact h1
  · have := HE.out
    unfold sgn at this
    simp only [if_true] at this
    omega
theorem big_open {w : World} {b o : Nat} {n : Int} (h : IntAt TW w ⟨b, o, none⟩ n) : ∃ neg, w.cell? ⟨b, o, none⟩ = some (.bool neg) ∧ (neg = true ↔ n < 0) := by
  obtain ⟨neg, a, cap, l, h1, h2, H3, OK, NM, HNN, HE, HK, N1⟩ := IntAt.open h
  refine ⟨neg, h1, ?_⟩
  have e := HE.out
  unfold sgn at e
  cases neg
  · simp only [Bool.false_eq_true, if_false] at e
    constructor
    · intro h; cases h
    · intro h; omega
  · simp only [if_true] at e
    have := NM.out.pos (HNN.out rfl)
    constructor
    · intro _; omega
    · intro _; rfl
theorem gcd_pos_div {n d : Nat} (hd : 0 < d) : 0 < (d : Int).tdiv (Nat.gcd n d : Nat) := by
  rw [← Int.ofNat_tdiv]
  have h1 := Nat.gcd_le_right n hd
  have h2 := Nat.gcd_pos_of_pos_right n hd
  have := Nat.div_pos h1 h2
  omega
set_option maxRecDepth 100000 in
set_option maxHeartbeats 4000000 in
theorem setFrac_any (bz ba oa bb ob : Nat) (n : Int) (d : Nat) (w : World) (hz : ZAt TW w bz 0 4) (ha : IntAt TW w ⟨ba, oa, none⟩ n) (hb : IntAt TW w ⟨bb, ob, none⟩ (d : Int)) (hd : 0 < d) (hn : bl n ≤ 100000) (hn2 : bl (d : Int) ≤ 100000) (hs : Sm n.natAbs d) :
    Calls Tryz.prog 55 #[.pointer (some ⟨bz, 0, none⟩), .pointer (some ⟨ba, oa, none⟩), .pointer (some ⟨bb, ob, none⟩)] w (RatRet bz (mkRat n d) w) := by
  obtain ⟨e1, e2⟩ := mkRat_parts n hd
  have hgd := gcd_pos_div (n := n.natAbs) hd
  have hdg := divG (n := n.natAbs) (B := 100000) hd hn2 (by omega)
  have hbg := bl_gcd (n := n.natAbs) (B := 100000) hd hn2
  have hs' : Sm n.natAbs (d : Int).natAbs := by rw [Int.natAbs_natCast]; exact hs
  obtain ⟨r, hr⟩ : ∃ r, mkRat n d = r := ⟨_, rfl⟩
  rw [hr] at e1 e2 ⊢
  have hrb : bl (r.den : Int) ≤ 100000 := by rw [e2]; exact Nat.le_trans (bl_tdiv _ _) hn2
  have HZ := Lib.hid hz
  have HA := Lib.hid ha
  have HB := Lib.hid hb
  have HD := Lib.hid (show (0 : Int) < d by omega)
  have HN := Lib.hid hn
  have HN2 := Lib.hid hn2
  have HS := Lib.hid hs'
  have HGD := Lib.hid hgd
  have HDG := Lib.hid hdg
  have HBG := Lib.hid hbg
  have HRB := Lib.hid hrb
  obtain ⟨g, hg⟩ : ∃ g, Nat.gcd n.natAbs d = g := ⟨_, rfl⟩
  rw [hg] at e1 e2 HGD HDG HBG
  have E1 := Lib.hid e1
  have E2 := Lib.hid e2
  have HG := Lib.hid hg
  clear hz ha hb hd hn hn2 hs e1 e2 hgd hdg hbg hr hg hs' hrb
  obtain ⟨m, hm⟩ : ∃ m : Int, (d : Int) = m := ⟨_, rfl⟩
  have HM := Lib.hid hm
  rw [hm] at HB HD HN2 HGD HS E2
  clear hm
  go_enter Tryz.func55, Tryz.ntmps55
  go_wp2_with fail
  refine (iset_any w.heap.size 0 ba oa n _ (znew w) (HA.out.below (bnew w _)) HN.out).mono ?_
  rintro e w1 ⟨rfl, hi, hr⟩
  have B1 := Lib.hid (newW hr)
  have P := Lib.hid hi
  have LP := Lib.hid hi.lt
  have HA1 := Lib.hid (HA.out.below B1.out)
  have HB1 := Lib.hid (HB.out.below B1.out)
  have HZ1 := Lib.hid (HZ.out.below B1.out)
  have LZ := Lib.hid HZ.out.lt
  clear hi hr HA HB HZ
  go_wp2_with fail
  refine (iset_any w1.heap.size 0 bb ob m _ (znew w1) (HB1.out.below (bnew w1 _)) HN2.out).mono ?_
  rintro e w2 ⟨rfl, hi, hr⟩
  have B2 := Lib.hid (newW hr)
  have Q := Lib.hid hi
  have LQ := Lib.hid hi.lt
  have P2 := Lib.hid (P.out.below B2.out)
  have HA2 := Lib.hid (HA1.out.below B2.out)
  have HB2 := Lib.hid (HB1.out.below B2.out)
  have HZ2 := Lib.hid (HZ1.out.below B2.out)
  have B12 := Lib.hid (B1.out.trans (B2.out.mono B1.out.size))
  clear hi hr HA1 HB1 HZ1 P
  go_wp2_with fail
  refine (gcd_any w2.heap.size 0 ba oa bb ob n m _ (znew w2) (HA2.out.below (bnew w2 _)) (HB2.out.below (bnew w2 _)) HN.out HN2.out HS.out).mono ?_
  rintro e w3 ⟨rfl, hi, hr⟩
  rw [← HM.out, Int.natAbs_natCast, HG.out] at hi
  have B3 := Lib.hid (newW hr)
  have G := Lib.hid hi
  have LG := Lib.hid hi.lt
  have P3 := Lib.hid (P2.out.below B3.out)
  have Q3 := Lib.hid (Q.out.below B3.out)
  have HZ3 := Lib.hid (HZ2.out.below B3.out)
  have B13 := Lib.hid (B12.out.trans (B3.out.mono B12.out.size))
  have ONE := Lib.hid (one_any w2.heap.size 0 (g : Int) w3 hi (Nat.le_trans HBG.out (by omega)))
  clear hi hr HA2 HB2 HZ2 P2 Q
  by_cases hg1 : g = 1
  · have e1 : decide ((g : Int) = 1) = true := decide_eq_true (by omega)
    rw [e1] at ONE
    have E1' := Lib.hid (E1.out.trans (tdiv_one_g hg1))
    have E2' := Lib.hid (E2.out.trans (tdiv_one_g hg1))
    have c0 := pos_open Q3.out HD.out
    go_wp2_with (go_at_call 82; refine ONE.out.mono ?_; rintro e w' ⟨rfl, rfl⟩)
    refine (place_any bz w.heap.size 0 w1.heap.size 0 r w3 HZ3.out (Nat.ne_of_gt LZ.out) (by have := LZ.out; have := LP.out; omega) (by rw [E1'.out]; exact P3.out) (by rw [E2'.out]; exact Q3.out) HRB.out).mono ?_
    rintro e w4 ⟨rfl, hra, hr⟩
    have R := Lib.hid hra
    have RW := Lib.hid ((Wr.of_below bz 0 4 B13.out).trans hr)
    clear hra hr
    go_wp2_with fail
    go_ret
    exact ⟨rfl, R.out, RW.out⟩
  · have e1 : decide ((g : Int) = 1) = false := decide_eq_false (by omega)
    rw [e1] at ONE
    go_wp2_with (go_at_call 82; refine ONE.out.mono ?_; rintro e w' ⟨rfl, rfl⟩)
    refine (quo_any w.heap.size 0 w.heap.size 0 w2.heap.size 0 n g w3 P3.out.z P3.out G.out HN.out HBG.out (HDG.out _)).mono ?_
    rintro e w4 ⟨rfl, hi, hr⟩
    have P4 := Lib.hid hi
    have Q4 := Lib.hid (Q3.out.wr hr P3.out.z (.inl (Nat.ne_of_gt LP.out)))
    have G4 := Lib.hid (G.out.wr hr P3.out.z (.inl (by have := LP.out; have := LQ.out; omega)))
    have HZ4 := Lib.hid (HZ3.out.wr hr)
    have B14 := Lib.hid (B13.out.trans (hr.below (Nat.le_refl _) B13.out.size))
    clear hi hr
    go_wp2_with fail
    refine (quo_any w1.heap.size 0 w1.heap.size 0 w2.heap.size 0 m g w4 Q4.out.z Q4.out G4.out HN2.out HBG.out (HDG.out _)).mono ?_
    rintro e w5 ⟨rfl, hi, hr⟩
    have Q5 := Lib.hid hi
    have P5 := Lib.hid (P4.out.wr hr Q4.out.z (.inl (Nat.ne_of_lt LP.out)))
    have HZ5 := Lib.hid (HZ4.out.wr hr)
    have B15 := Lib.hid (B14.out.trans (hr.below (Nat.le_of_lt LP.out) B14.out.size))
    clear hi hr
    have c0 := pos_open Q5.out HGD.out
    go_wp2_with fail
    refine (place_any bz w.heap.size 0 w1.heap.size 0 r w5 HZ5.out (Nat.ne_of_gt LZ.out) (by have := LZ.out; have := LP.out; omega) (by rw [E1.out]; exact P5.out) (by rw [E2.out]; exact Q5.out) HRB.out).mono ?_
    rintro e w6 ⟨rfl, hra, hr⟩
    have R := Lib.hid hra
    have RW := Lib.hid ((Wr.of_below bz 0 4 B15.out).trans hr)
    clear hra hr
    go_wp2_with fail
    go_ret
    exact ⟨rfl, R.out, RW.out⟩
end Go.Proofs.YtokmommlabdcdaaGreatDoor
set_option linter.unusedVariables false
set_option linter.unusedSimpArgs false
namespace Go.Proofs.YtokmommlabdcdaaGreatDoor
open Wd Fl Go.RowKit
theorem sm_pow (t i : Nat) : Sm t (2 ^ i) := by
  by_cases h : t = 0
  · exact .inl h
  · obtain ⟨p, c, e, hc⟩ := twos_of h
    exact .inr (.inr ⟨p, i, c, 1, e, by rw [Nat.mul_one], hc, rfl, .inr (.inl rfl)⟩)
theorem bl_pow_le {i B : Nat} (h : i ≤ B) : bl ((2 ^ i : Nat) : Int) ≤ B + 1 := by unfold bl; rw [Int.natAbs_natCast, blen_pow]; omega
end Go.Proofs.YtokmommlabdcdaaGreatDoor
