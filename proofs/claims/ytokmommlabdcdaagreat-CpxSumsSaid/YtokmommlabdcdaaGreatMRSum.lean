/- Contracts of surdref5's halves and Sum. Two sums of one list in one order are the same, NaNs for one. -/
import Derived.Test.YtokmommlabdcdaaGreatMBig39
import Derived.Test.YtokmommlabdcdaaGreatMSum
import Derived.Test.YtokmommlabdcdaaGreatMLend
import Derived.Test.YtokmommlabdcdaaGreatMCs
import Derived.Test.YtokmommlabdcdaaGreatMFlRel
set_option linter.unusedVariables false
set_option linter.unusedSimpArgs false
set_option linter.unusedVariables false
set_option linter.unusedSimpArgs false
namespace Go.Proofs.YtokmommlabdcdaaGreat
open Wd Fl Go.RowKit
def Ok64 (cs : List Cpx) : Prop := ∀ z ∈ cs, z.1 < 2 ^ 64 ∧ z.2 < 2 ^ 64
theorem Ok64.nth {cs : List Cpx} (h : Ok64 cs) (k : Nat) (hk : k < cs.length) : (nth cs k).1 < 2 ^ 64 ∧ (nth cs k).2 < 2 ^ 64 := BitsOk_nth h k hk
theorem halvesLt {zs : List Cpx} {x y : Nat} (h : HalvesR zs x y) : Ok64 zs → x < 2 ^ 64 ∧ y < 2 ^ 64 := by
  cases h with
  | nil => intro _; exact ⟨by decide, by decide⟩
  | one z => intro h; exact h z (List.mem_singleton.2 rfl)
  | more zs a b c d x y _ _ _ h => intro _; exact ⟨h.1.lt, h.2.lt⟩
def HvRet (zs : List Cpx) (w : World) (e : Ending) (w' : World) : Prop := ∃ x y, HalvesR zs x y ∧ (x < 2 ^ 64 ∧ y < 2 ^ 64) ∧ e = .returned (.complex .f64 x y) ∧ Below w.heap.size w w'
set_option maxRecDepth 100000 in
set_option maxHeartbeats 4000000 in
theorem refhalves_any : ∀ (m : Nat) (zs : List Cpx) (b off cap : Nat) (w : World), zs.length ≤ m → 1 ≤ zs.length → zs.length ≤ 4611686018427387904 → zs.length ≤ cap → Cells w b off zs → Ok64 zs →
    Calls Tryz.prog 61 #[.slice (some ⟨b, off, none⟩) zs.length cap] w (HvRet zs w) := by
  intro m
  induction m with
  | zero => intro zs b off cap w h1 h2; omega
  | succ m ih =>
    intro zs b off cap w hm h1 hmax hcap hc hok
    by_cases h2 : zs.length = 1
    · obtain ⟨z, rfl⟩ : ∃ z, zs = [z] := by
        match zs, h2 with
        | [z], _ => exact ⟨z, rfl⟩
      have hc0 : w.cell? ⟨b, off, none⟩ = some (.complex .f64 z.1 z.2) := hc 0 (by simp)
      have L := Lib.hid (hok z (List.mem_singleton.2 rfl))
      have nc : (1 : Int) ≤ (cap : Int) := by have : 1 ≤ cap := hcap; omega
      show Calls _ _ #[.slice (some ⟨b, off, none⟩) 1 cap] w _
      clear hc ih hm h1 hmax hcap hok h2
      go_enter Tryz.func61, Tryz.ntmps61
      go_wp2_with fail
      go_ret
      exact ⟨z.1, z.2, .one z, L.out, rfl, Below.refl _ _⟩
    · obtain ⟨len, hlen⟩ : ∃ len, len = zs.length := ⟨_, rfl⟩
      have h22 : 2 ≤ zs.length := by omega
      have l1 : (zs.take (len / 2)).length = len / 2 := by rw [List.length_take]; omega
      have l2 : (zs.drop (len / 2)).length = len - len / 2 := by rw [List.length_drop]; omega
      have ok1 : Ok64 (zs.take (len / 2)) := fun z hz => hok z (List.mem_of_mem_take hz)
      have ok2 : Ok64 (zs.drop (len / 2)) := fun z hz => hok z (List.mem_of_mem_drop hz)
      have I1 := Lib.hid (show ∀ W, Below w.heap.size w W → Calls Tryz.prog 61 #[.slice (some ⟨b, off, none⟩) ((len / 2 : Nat)) cap] W (HvRet (zs.take (len / 2)) W) from fun W hW => by
        have := ih (zs.take (len / 2)) b off cap W (by omega) (by omega) (by omega) (by omega) ((hc.below hW).take _) ok1
        rwa [l1] at this)
      have I2 := Lib.hid (show ∀ W, Below w.heap.size w W → Calls Tryz.prog 61 #[.slice (some ⟨b, off + len / 2, none⟩) ((len - len / 2 : Nat)) (cap - len / 2)] W (HvRet (zs.drop (len / 2)) W) from fun W hW => by
        have := ih (zs.drop (len / 2)) b (off + len / 2) (cap - len / 2) W (by omega) (by omega) (by omega) (by omega) ((hc.below hW).drop _) ok2
        rwa [l2] at this)
      have M := Lib.hid (fun a b c d x y => HalvesR.more zs a b c d x y h22)
      rw [← hlen] at M hcap h22 hmax h2 ⊢
      clear l1 l2 ok1 ok2 hc hlen hm ih h1 hok
      have e1 : ((len : Int) == 1) = false := by rw [beq_eq_false_iff_ne]; omega
      have hmax' : (len : Int) ≤ 4611686018427387904 := by omega
      have h2' : (2 : Int) ≤ (len : Int) := by omega
      have hs1 : (0 : Int) ≤ (len : Int) / 2 := by omega
      have hs2 : (len : Int) / 2 ≤ (len : Int) := by omega
      have hs3 : (len : Int) / 2 ≤ (cap : Int) := by omega
      have hs4 : (len : Int) ≤ (cap : Int) := by omega
      have ht : ((len : Int) / 2).toNat = len / 2 := by omega
      have hne : ¬ cap = len / 2 := by omega
      have BD := Lib.hid (Below.refl w.heap.size w).drew
      go_enter Tryz.func61, Tryz.ntmps61
      go_wp2_with fail
      go_region_law (first
        | (go_simp; go_at_call 61; (with_reducible refine (I1.out _ BD.out).mono ?_); intro e w1 hh; rcases hh with ⟨xa, xb, H1, hl1, he, hb⟩; subst he; have R1 := Lib.hid H1; have K1 := Lib.hid hl1; have B1 := Lib.hid (BD.out.trans (hb.mono BD.out.size)); clear H1 hl1 hb)
        | (go_simp; go_at_call 61; (with_reducible refine (I2.out _ B1.out).mono ?_); intro e w2 hh; rcases hh with ⟨xc, xd, H2, hl2, he, hb⟩; subst he; have R2 := Lib.hid H2; have K2 := Lib.hid hl2; have B2 := Lib.hid (B1.out.trans (hb.mono B1.out.size)); clear H2 hl2 hb)
        | (go_simp; go_at_call 16; (with_reducible refine (refadd_any xa xb xc xd _ K1.out.1 K1.out.2 K2.out.1 K2.out.2).mono ?_); intro e w3 hh; rcases hh with ⟨x, y, H3, he, hb⟩; subst he; have R3 := Lib.hid H3; have K3 := Lib.hid (And.intro H3.1.lt H3.2.lt); have B3 := Lib.hid (B2.out.trans (hb.mono B2.out.size)); clear H3 hb))
      all_goals
        go_wp2_with fail
        go_ret
        exact ⟨x, y, M.out _ _ _ _ _ _ R1.out R2.out R3.out, K3.out, rfl, B3.out⟩
theorem nth_rev (zs : List Cpx) (i : Nat) (hi : i < zs.length) : nth zs.reverse i = nth zs (zs.length - 1 - i) := by
  unfold nth
  rw [List.getD_eq_getElem?_getD, List.getD_eq_getElem?_getD, List.getElem?_reverse hi]
set_option maxRecDepth 100000 in
set_option maxHeartbeats 4000000 in
theorem refsum_bad (zs : List Cpx) (v : Value) (order : Int) (w : World) (hv : Sl w v zs) (ho : ¬ (1 ≤ order ∧ order ≤ 3)) :
    Calls Tryz.prog 28 #[v, .int .i64 order] w (SumRet zs order w) := by
  have hd : order < 1 ∨ (¬ order < 1 ∧ 3 < order) := by omega
  have HO := Lib.hid ho; clear ho
  obtain ⟨a, len, cap, rfl⟩ : ∃ a len cap, v = .slice a len cap := by
    rcases hv with ⟨rfl, _⟩ | ⟨b, off, cap, rfl, _, _⟩
    · exact ⟨_, _, _, rfl⟩
    · exact ⟨_, _, _, rfl⟩
  clear hv
  rcases hd with hd | ⟨hd, hd2⟩
  · have d1 : decide (order < 1) = true := decide_eq_true hd
    go_enter Tryz.func28, Tryz.ntmps28
    go_wp2_with fail
    go_ret2
    exact SumRet.bad HO.out (Below.refl _ _)
  · have d1 : decide (order < 1) = false := decide_eq_false hd
    have d2 : decide (3 < order) = true := decide_eq_true hd2
    go_enter Tryz.func28, Tryz.ntmps28
    go_wp2_with fail
    go_ret2
    exact SumRet.bad HO.out (Below.refl _ _)
set_option maxRecDepth 100000 in
set_option maxHeartbeats 4000000 in
theorem refsum_nil (v : Value) (order : Int) (w : World) (hv : Sl w v []) (h1 : 1 ≤ order) (h3 : order ≤ 3) :
    Calls Tryz.prog 28 #[v, .int .i64 order] w (SumRet [] order w) := by
  have HO := Lib.hid (And.intro h1 h3)
  obtain ⟨a, cap, rfl⟩ : ∃ a cap, v = .slice a 0 cap := by
    rcases hv with ⟨rfl, _⟩ | ⟨b, off, cap, rfl, _, _⟩
    · exact ⟨_, _, rfl⟩
    · exact ⟨_, _, rfl⟩
  have d1 : decide (order < 1) = false := decide_eq_false (by omega)
  have d2 : decide (3 < order) = false := decide_eq_false (by omega)
  clear hv h1 h3
  go_enter Tryz.func28, Tryz.ntmps28
  go_wp2_with fail
  go_ret2
  exact SumRet.ok HO.out.1 HO.out.2 (SumR.short HO.out.1 HO.out.2 (.inl (by decide)) .nil) (Below.refl _ _)
set_option maxRecDepth 100000 in
set_option maxHeartbeats 4000000 in
theorem refsum_three (zs : List Cpx) (b off cap : Nat) (w : World) (hpos : 1 ≤ zs.length) (hcap : zs.length ≤ cap) (hmax : zs.length ≤ 4611686018427387904) (hc : Cells w b off zs) (hok : Ok64 zs) :
    Calls Tryz.prog 28 #[.slice (some ⟨b, off, none⟩) zs.length cap, .int .i64 3] w (SumRet zs 3 w) := by
  have HH := Lib.hid (refhalves_any zs.length zs b off cap w (Nat.le_refl _) hpos hmax hcap hc hok)
  have e0 : ((zs.length : Int) == 0) = false := by rw [beq_eq_false_iff_ne]; omega
  clear hpos hcap hmax hc hok
  go_enter Tryz.func28, Tryz.ntmps28
  go_wp2_with fail
  refine HH.out.mono ?_
  intro e w1 hh
  rcases hh with ⟨x, y, h, hl, rfl, hb⟩
  have R := Lib.hid h
  have B := Lib.hid hb
  clear h hl hb
  go_wp2_with fail
  go_ret2
  exact SumRet.ok (by decide) (by decide) (SumR.short (by decide) (by decide) (.inr rfl) R.out) B.out
set_option maxRecDepth 100000 in
set_option maxHeartbeats 8000000 in
theorem refsum_one (zs : List Cpx) (b off cap : Nat) (w : World) (hpos : 1 ≤ zs.length) (hcap : zs.length ≤ cap) (hmax : zs.length ≤ 4611686018427387904) (hc : Cells w b off zs) (hok : Ok64 zs) :
    Calls Tryz.prog 28 #[.slice (some ⟨b, off, none⟩) zs.length cap, .int .i64 1] w (SumRet zs 1 w) := by
  have HC := Lib.hid hc
  have OK := Lib.hid hok
  have HLB := Lib.hid (show b < w.heap.size from World.block_lt_of_cell? w _ (hc 0 (by omega)))
  obtain ⟨f, hf⟩ : ∃ z, nth zs 0 = z := ⟨_, rfl⟩
  obtain ⟨l, hl⟩ : ∃ z, nth zs (zs.length - 1) = z := ⟨_, rfl⟩
  have cf0 := hc 0 (by omega)
  have cl0 := hc (zs.length - 1) (by omega)
  rw [hf] at cf0
  rw [hl] at cl0
  have FR := Lib.hid (show FrontR ((rowOf 1 zs).take 1) f.1 f.2 by
    have := FrontR.first (l := rowOf 1 zs) (by rw [rowOf_len]; omega)
    rw [show nth (rowOf 1 zs) 0 = f from hf] at this
    exact this)
  have SL := Lib.hid (show f.1 < 2 ^ 64 ∧ f.2 < 2 ^ 64 by rw [← hf]; exact hok.nth _ (by omega))
  obtain ⟨f1, f2⟩ := f
  obtain ⟨l1, l2⟩ := l
  have cf : w.cell? ⟨b, off, none⟩ = some (.complex .f64 f1 f2) := cf0
  have cl : w.cell? ⟨b, off + (zs.length - 1), none⟩ = some (.complex .f64 l1 l2) := cl0
  obtain ⟨n, hn⟩ : ∃ n, zs.length = n := ⟨_, rfl⟩
  have HN := Lib.hid hn
  rw [hn] at hpos hcap hmax cl ⊢
  have e0 : ((n : Int) == 0) = false := by rw [beq_eq_false_iff_ne]; omega
  have p0 : (0 : Int) < (n : Int) := by omega
  have nc : (n : Int) ≤ (cap : Int) := by omega
  have w1 : IntKind.i64.wrap ((n : Int) - 1) = ((n - 1 : Nat) : Int) := by rw [show ((n - 1 : Nat) : Int) = (n : Int) - 1 by omega]; exact IntWalk.i64_in _ (by omega)
  have p1 : ((n - 1 : Nat) : Int) < (n : Int) := by omega
  have HP := Lib.hid (And.intro hpos hmax)
  clear hc hok hf hl cf0 cl0 hn hpos hmax hcap
  go_enter Tryz.func28, Tryz.ntmps28
  go_wp2_with fail
  go_loopw [6, 7, 8] (fun ss si sk wr => ∃ (t : Nat) (x : Cpx), 1 ≤ t ∧ t ≤ n ∧ ss = .complex .f64 x.1 x.2 ∧ si = .int .i64 (t : Int) ∧ FrontR ((rowOf 1 zs).take t) x.1 x.2 ∧ (x.1 < 2 ^ 64 ∧ x.2 < 2 ^ 64) ∧ Below w.heap.size w wr) (fun _ si _ _ => n - (intOf si).toNat)
  case atStart => exact ⟨1, (f1, f2), Nat.le_refl _, HP.out.1, rfl, rfl, FR.out, SL.out, Below.refl _ _⟩
  case round =>
    obtain ⟨t, x, ht1, ht, rfl, rfl, hF, hx, hB⟩ := hrel
    have HT := Lib.hid (And.intro ht1 ht)
    have HF := Lib.hid hF
    have XL := Lib.hid hx
    have HB := Lib.hid hB
    obtain ⟨x1, x2⟩ := x
    clear ht1 ht hF hx hB cf cl
    by_cases hlt : t < n
    · have hlt' : decide ((t : Int) < (n : Int)) = true := decide_eq_true (by omega)
      have hlt2 : (t : Int) < (n : Int) := by omega
      have hw1 : IntKind.i64.wrap ((t : Int) + 1) = ((t + 1 : Nat) : Int) := by have := HP.out; rw [show ((t + 1 : Nat) : Int) = (t : Int) + 1 by omega]; exact IntWalk.i64_in _ (by omega)
      have hw2 : IntKind.i64.wrap (((n - 1 : Nat) : Int) - (t : Int)) = ((n - 1 - t : Nat) : Int) := by have := HP.out; rw [show ((n - 1 - t : Nat) : Int) = ((n - 1 : Nat) : Int) - (t : Int) by omega]; exact IntWalk.i64_in _ (by omega)
      have p2 : ((n - 1 - t : Nat) : Int) < (n : Int) := by omega
      have ck0 : wr.cell? ⟨b, off + t, none⟩ = some (cv (nth zs t)) := (HB.out.cell (p := ⟨b, off + t, none⟩) HLB.out).trans (HC.out t (by have := HN.out; omega))
      obtain ⟨c, hcc⟩ : ∃ c, nth zs t = c := ⟨_, rfl⟩
      have CL := Lib.hid (show c.1 < 2 ^ 64 ∧ c.2 < 2 ^ 64 by rw [← hcc]; exact OK.out.nth _ (by have := HN.out; omega))
      rw [hcc] at ck0
      have KC := Lib.hid (show nth (rowOf 1 zs) t = c by rw [show rowOf 1 zs = zs from rfl, ← hcc])
      obtain ⟨c1, c2⟩ := c
      have ck : wr.cell? ⟨b, off + t, none⟩ = some (.complex .f64 c1 c2) := ck0
      clear hcc ck0
      go_wp2_with fail
      refine (refadd_any x1 x2 c1 c2 _ XL.out.1 XL.out.2 CL.out.1 CL.out.2).mono ?_
      intro e w3 hh
      rcases hh with ⟨y1, y2, h, rfl, hb⟩
      have R := Lib.hid h
      have YL := Lib.hid (And.intro h.1.lt h.2.lt)
      have B3 := Lib.hid (HB.out.trans (hb.mono HB.out.size))
      clear h hb
      go_wp2_with fail
      go_roundw
      case rel => exact ⟨t + 1, (y1, y2), by omega, by omega, rfl, rfl, FrontR.step HT.out.1 (by rw [rowOf_len, HN.out]; exact hlt) HF.out (by rw [KC.out]; exact R.out), YL.out, B3.out⟩
      case measure => simp [intOf]; omega
    · obtain rfl : t = n := by have := HT.out; omega
      have hge : decide ((t : Int) < (t : Int)) = false := decide_eq_false (by omega)
      clear hlt
      go_wp2_with fail
      go_ret2
      have h := HF.out
      rw [List.take_of_length_le (by rw [rowOf_len, HN.out]; exact Nat.le_refl _)] at h
      exact SumRet.ok (by decide) (by decide) (SumR.front (by decide) h) HB.out
set_option maxRecDepth 100000 in
set_option maxHeartbeats 8000000 in
theorem refsum_two (zs : List Cpx) (b off cap : Nat) (w : World) (hpos : 1 ≤ zs.length) (hcap : zs.length ≤ cap) (hmax : zs.length ≤ 4611686018427387904) (hc : Cells w b off zs) (hok : Ok64 zs) :
    Calls Tryz.prog 28 #[.slice (some ⟨b, off, none⟩) zs.length cap, .int .i64 2] w (SumRet zs 2 w) := by
  have HC := Lib.hid hc
  have OK := Lib.hid hok
  have HLB := Lib.hid (show b < w.heap.size from World.block_lt_of_cell? w _ (hc 0 (by omega)))
  obtain ⟨f, hf⟩ : ∃ z, nth zs 0 = z := ⟨_, rfl⟩
  obtain ⟨l, hl⟩ : ∃ z, nth zs (zs.length - 1) = z := ⟨_, rfl⟩
  have cf0 := hc 0 (by omega)
  have cl0 := hc (zs.length - 1) (by omega)
  rw [hf] at cf0
  rw [hl] at cl0
  have FR := Lib.hid (show FrontR ((rowOf 2 zs).take 1) l.1 l.2 by
    have := FrontR.first (l := rowOf 2 zs) (by rw [rowOf_len]; omega)
    rw [show nth (rowOf 2 zs) 0 = l from (nth_rev zs 0 (by omega)).trans hl] at this
    exact this)
  have SL := Lib.hid (show l.1 < 2 ^ 64 ∧ l.2 < 2 ^ 64 by rw [← hl]; exact hok.nth _ (by omega))
  obtain ⟨f1, f2⟩ := f
  obtain ⟨l1, l2⟩ := l
  have cf : w.cell? ⟨b, off, none⟩ = some (.complex .f64 f1 f2) := cf0
  have cl : w.cell? ⟨b, off + (zs.length - 1), none⟩ = some (.complex .f64 l1 l2) := cl0
  obtain ⟨n, hn⟩ : ∃ n, zs.length = n := ⟨_, rfl⟩
  have HN := Lib.hid hn
  rw [hn] at hpos hcap hmax cl ⊢
  have e0 : ((n : Int) == 0) = false := by rw [beq_eq_false_iff_ne]; omega
  have p0 : (0 : Int) < (n : Int) := by omega
  have nc : (n : Int) ≤ (cap : Int) := by omega
  have w1 : IntKind.i64.wrap ((n : Int) - 1) = ((n - 1 : Nat) : Int) := by rw [show ((n - 1 : Nat) : Int) = (n : Int) - 1 by omega]; exact IntWalk.i64_in _ (by omega)
  have p1 : ((n - 1 : Nat) : Int) < (n : Int) := by omega
  have HP := Lib.hid (And.intro hpos hmax)
  clear hc hok hf hl cf0 cl0 hn hpos hmax hcap
  go_enter Tryz.func28, Tryz.ntmps28
  go_wp2_with fail
  go_loopw [6, 7, 8] (fun ss si sk wr => ∃ (t : Nat) (x : Cpx), 1 ≤ t ∧ t ≤ n ∧ ss = .complex .f64 x.1 x.2 ∧ si = .int .i64 (t : Int) ∧ FrontR ((rowOf 2 zs).take t) x.1 x.2 ∧ (x.1 < 2 ^ 64 ∧ x.2 < 2 ^ 64) ∧ Below w.heap.size w wr) (fun _ si _ _ => n - (intOf si).toNat)
  case atStart => exact ⟨1, (l1, l2), Nat.le_refl _, HP.out.1, rfl, rfl, FR.out, SL.out, Below.refl _ _⟩
  case round =>
    obtain ⟨t, x, ht1, ht, rfl, rfl, hF, hx, hB⟩ := hrel
    have HT := Lib.hid (And.intro ht1 ht)
    have HF := Lib.hid hF
    have XL := Lib.hid hx
    have HB := Lib.hid hB
    obtain ⟨x1, x2⟩ := x
    clear ht1 ht hF hx hB cf cl
    by_cases hlt : t < n
    · have hlt' : decide ((t : Int) < (n : Int)) = true := decide_eq_true (by omega)
      have hlt2 : (t : Int) < (n : Int) := by omega
      have hw1 : IntKind.i64.wrap ((t : Int) + 1) = ((t + 1 : Nat) : Int) := by have := HP.out; rw [show ((t + 1 : Nat) : Int) = (t : Int) + 1 by omega]; exact IntWalk.i64_in _ (by omega)
      have hw2 : IntKind.i64.wrap (((n - 1 : Nat) : Int) - (t : Int)) = ((n - 1 - t : Nat) : Int) := by have := HP.out; rw [show ((n - 1 - t : Nat) : Int) = ((n - 1 : Nat) : Int) - (t : Int) by omega]; exact IntWalk.i64_in _ (by omega)
      have p2 : ((n - 1 - t : Nat) : Int) < (n : Int) := by omega
      have ck0 : wr.cell? ⟨b, off + (n - 1 - t), none⟩ = some (cv (nth zs (n - 1 - t))) := (HB.out.cell (p := ⟨b, off + (n - 1 - t), none⟩) HLB.out).trans (HC.out (n - 1 - t) (by have := HN.out; omega))
      obtain ⟨c, hcc⟩ : ∃ c, nth zs (n - 1 - t) = c := ⟨_, rfl⟩
      have CL := Lib.hid (show c.1 < 2 ^ 64 ∧ c.2 < 2 ^ 64 by rw [← hcc]; exact OK.out.nth _ (by have := HN.out; omega))
      rw [hcc] at ck0
      have KC := Lib.hid (show nth (rowOf 2 zs) t = c by rw [show nth (rowOf 2 zs) t = nth zs (n - 1 - t) from by rw [← HN.out]; exact nth_rev zs t (by have := HN.out; omega), ← hcc])
      obtain ⟨c1, c2⟩ := c
      have ck : wr.cell? ⟨b, off + (n - 1 - t), none⟩ = some (.complex .f64 c1 c2) := ck0
      clear hcc ck0
      go_wp2_with fail
      refine (refadd_any x1 x2 c1 c2 _ XL.out.1 XL.out.2 CL.out.1 CL.out.2).mono ?_
      intro e w3 hh
      rcases hh with ⟨y1, y2, h, rfl, hb⟩
      have R := Lib.hid h
      have YL := Lib.hid (And.intro h.1.lt h.2.lt)
      have B3 := Lib.hid (HB.out.trans (hb.mono HB.out.size))
      clear h hb
      go_wp2_with fail
      go_roundw
      case rel => exact ⟨t + 1, (y1, y2), by omega, by omega, rfl, rfl, FrontR.step HT.out.1 (by rw [rowOf_len, HN.out]; exact hlt) HF.out (by rw [KC.out]; exact R.out), YL.out, B3.out⟩
      case measure => simp [intOf]; omega
    · obtain rfl : t = n := by have := HT.out; omega
      have hge : decide ((t : Int) < (t : Int)) = false := decide_eq_false (by omega)
      clear hlt
      go_wp2_with fail
      go_ret2
      have h := HF.out
      rw [List.take_of_length_le (by rw [rowOf_len, HN.out]; exact Nat.le_refl _)] at h
      exact SumRet.ok (by decide) (by decide) (SumR.front (by decide) h) HB.out
theorem refsum_any (zs : List Cpx) (v : Value) (order : Int) (w : World) (hv : Sl w v zs) (hmax : zs.length ≤ 4611686018427387904) (hok : Ok64 zs) :
    Calls Tryz.prog 28 #[v, .int .i64 order] w (SumRet zs order w) := by
  by_cases ho : 1 ≤ order ∧ order ≤ 3
  · by_cases h0 : zs.length = 0
    · obtain rfl : zs = [] := List.eq_nil_of_length_eq_zero h0
      exact refsum_nil v order w hv ho.1 ho.2
    rcases hv with ⟨rfl, rfl⟩ | ⟨b, off, cap, rfl, hcap, hc⟩
    · exact absurd rfl h0
    by_cases h1 : order = 1
    · subst h1; exact refsum_one zs b off cap w (by omega) hcap hmax hc hok
    by_cases h2 : order = 2
    · subst h2; exact refsum_two zs b off cap w (by omega) hcap hmax hc hok
    obtain rfl : order = 3 := by omega
    exact refsum_three zs b off cap w (by omega) hcap hmax hc hok
  · exact refsum_bad zs v order w hv ho
end Go.Proofs.YtokmommlabdcdaaGreat
set_option linter.unusedVariables false
set_option linter.unusedSimpArgs false
namespace Go.Proofs.YtokmommlabdcdaaGreat
open Wd Fl Go.RowKit
theorem foldSame {zs : List Cpx} : ∀ {a b a' b' x y x' y' : Nat}, FoldR a b zs x y → FoldR a' b' zs x' y' → SameP a b a' b' → SameP x y x' y' := by
  induction zs with
  | nil => intro a b a' b' x y x' y' h g s; cases h; cases g; exact s
  | cons z zs ih =>
    intro a b a' b' x y x' y' h g s
    cases h with
    | cons _ _ _ _ c d _ _ h1 h2 =>
      cases g with
      | cons _ _ _ _ c' d' _ _ g1 g2 => exact ih h2 g2 (h1.cong g1 s (.refl _ _))
theorem frontSame {zs : List Cpx} {x y x' y' : Nat} (h : FrontR zs x y) (g : FrontR zs x' y') : SameP x y x' y' := by
  cases zs with
  | nil => obtain ⟨rfl, rfl⟩ := h; obtain ⟨rfl, rfl⟩ := g; exact .refl _ _
  | cons z zs => exact foldSame h g (.refl _ _)
theorem halvesSame {zs : List Cpx} {x y : Nat} (h : HalvesR zs x y) : ∀ {x' y' : Nat}, HalvesR zs x' y' → SameP x y x' y' := by
  induction h with
  | nil =>
    intro x' y' g
    cases g with
    | nil => exact .refl _ _
    | more _ _ _ _ _ _ _ h _ _ _ => exact absurd h (by decide)
  | one z =>
    intro x' y' g
    cases g with
    | one => exact .refl _ _
    | more _ _ _ _ _ _ _ h _ _ _ => exact absurd h (by simp)
  | more zs a b c d x y hl _ _ h ih1 ih2 =>
    intro x' y' g
    cases g with
    | nil => exact absurd hl (by decide)
    | one => exact absurd hl (by simp)
    | more _ a' b' c' d' _ _ _ g1 g2 g => exact h.cong g (ih1 g1) (ih2 g2)
theorem sumSame {zs : List Cpx} {o : Int} {x y x' y' : Nat} (h : SumR zs o x y) (g : SumR zs o x' y') : SameP x y x' y' := by
  rcases h with ⟨e, h⟩ | ⟨e, h⟩ | ⟨e, h⟩ <;> rcases g with ⟨f, g⟩ | ⟨f, g⟩ | ⟨f, g⟩ <;> first | exact frontSame h g | exact halvesSame h g | omega
def sumCode (o : Int) : Int := if 1 ≤ o ∧ o ≤ 3 then 0 else 50
/-- what is the same of two answers -/
theorem SumRet.code {zs : List Cpx} {o : Int} {w w' : World} {e : Ending} (h : SumRet zs o w e w') : ∃ x y, e = .returned (.tuple #[.complex .f64 x y, .int .i64 (sumCode o)]) ∧ ((1 ≤ o ∧ o ≤ 3 ∧ SumR zs o x y) ∨ (¬ (1 ≤ o ∧ o ≤ 3) ∧ x = 0 ∧ y = 0)) ∧ Below w.heap.size w w' := by
  obtain ⟨x, y, code, rfl, h | h, hb⟩ := h
  · obtain ⟨h1, h3, rfl, h⟩ := h
    exact ⟨x, y, by rw [sumCode, if_pos ⟨h1, h3⟩], .inl ⟨h1, h3, h⟩, hb⟩
  · obtain ⟨h1, rfl, rfl, rfl⟩ := h
    exact ⟨0, 0, by rw [sumCode, if_neg h1], .inr ⟨h1, rfl, rfl⟩, hb⟩
def CodeRet (zs : List Cpx) (o : Int) (w : World) (e : Ending) (w' : World) : Prop := ∃ x y, e = .returned (.tuple #[.complex .f64 x y, .int .i64 (sumCode o)]) ∧ ((1 ≤ o ∧ o ≤ 3 ∧ SumR zs o x y) ∨ (¬ (1 ≤ o ∧ o ≤ 3) ∧ x = 0 ∧ y = 0)) ∧ Below w.heap.size w w'
theorem csum_code (zs : List Cpx) (v : Value) (order : Int) (w : World) (hv : Sl w v zs) (hmax : zs.length ≤ 4611686018427387904) :
    Calls Tryz.prog 27 #[v, .int .i64 order] w (CodeRet zs order w) := (csum_any zs v order w hv hmax).mono fun _ _ h => SumRet.code h
theorem refsum_code (zs : List Cpx) (v : Value) (order : Int) (w : World) (hv : Sl w v zs) (hmax : zs.length ≤ 4611686018427387904) (hok : Ok64 zs) :
    Calls Tryz.prog 28 #[v, .int .i64 order] w (CodeRet zs order w) := (refsum_any zs v order w hv hmax hok).mono fun _ _ h => SumRet.code h
theorem two_sums {zs : List Cpx} {o : Int} {x y x' y' : Nat} (h : (1 ≤ o ∧ o ≤ 3 ∧ SumR zs o x y) ∨ (¬ (1 ≤ o ∧ o ≤ 3) ∧ x = 0 ∧ y = 0)) (g : (1 ≤ o ∧ o ≤ 3 ∧ SumR zs o x' y') ∨ (¬ (1 ≤ o ∧ o ≤ 3) ∧ x' = 0 ∧ y' = 0)) : sameCB x y x' y' = true := by
  rcases h with ⟨h1, h3, h⟩ | ⟨h1, rfl, rfl⟩
  · rcases g with ⟨_, _, g⟩ | ⟨g1, _⟩
    · exact (sumSame h g).b
    · exact absurd ⟨h1, h3⟩ g1
  · rcases g with ⟨g1, g3, _⟩ | ⟨_, rfl, rfl⟩
    · exact absurd ⟨g1, g3⟩ h1
    · exact same_self _ _
theorem cs_sl2 (bs : List Cpx) (v : Value) (w : World) (hv : BitsAt w v bs) (hok : BitsOk bs) : Calls Tryz.prog 25 #[v] w fun e w' => ∃ u, e = .returned u ∧ Sl w' u bs ∧ Below w.heap.size w w' := by
  refine (cs_any bs v w hv hok).mono ?_
  rintro e w' ⟨u, rfl, ho, hb⟩
  exact ⟨u, rfl, Sl.of_own ho, hb⟩
end Go.Proofs.YtokmommlabdcdaaGreat
