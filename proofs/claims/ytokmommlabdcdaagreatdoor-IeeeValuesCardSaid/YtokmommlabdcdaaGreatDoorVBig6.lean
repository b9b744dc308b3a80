/- Contracts of surdbig.up, down. Contracts of surdbig.trimmed and up, which tell where the answer lies. -/
import Derived.Test.YtokmommlabdcdaaGreatDoorVBig5
import Derived.Test.YtokmommlabdcdaaGreatDoorVFlRel
import Derived.Laws.MakeOwn
set_option linter.unusedVariables false
set_option linter.unusedSimpArgs false
set_option linter.unusedVariables false
set_option linter.unusedSimpArgs false
namespace Go.Proofs.YtokmommlabdcdaaGreatDoor
open Wd Fl Go.RowKit
theorem own_made (w : World) (n cap : Nat) (h : n ≤ cap) (hm : cap ≤ maxLen) {G : Nat} (hG : G ≤ w.heap.size) :
    (w.alloc (.cells (madeCells #[.int .u32 0] cap) TW)).ownsRow G TW 1 (.slice (some ⟨w.heap.size, 0, none⟩) n cap) n ((List.replicate n 0).map wv) := by
  refine ⟨by simp, .inr ⟨w.heap.size, cap, _, rfl, hG, heap_alloc_new w _, h, hm, by rw [size_madeCells]; omega, ?_⟩⟩
  rw [made_words, Nat.mul_one, ← List.map_take, List.take_replicate, Nat.min_eq_left h]
/-- what holds of the numbers at the head of up's round -/
def UpV (l O : List Nat) (q s k c : Nat) : Prop := c < 2 ^ s ∧ O.length = q + k ∧ Ok O ∧ val O + 4294967296 ^ (q + k) * c = 2 ^ (32 * q + s) * val (l.take k)
theorem UpV.step {l O : List Nat} {q s k c : Nat} (h : UpV l O q s k c) (hs : s < 32) (hx : l.getD k 0 < 4294967296) :
    UpV l (O ++ [(l.getD k 0 * 2 ^ s + c) % 4294967296]) q s (k + 1) (l.getD k 0 / 2 ^ (32 - s)) := by
  obtain ⟨hc, hl, ho, hv⟩ := h
  refine ⟨up_carry_lt hx (by omega), by rw [List.length_append, hl]; rfl, ho.snoc (Nat.mod_lt _ (by decide)), ?_⟩
  have hv' : val O + 4294967296 ^ (q + k) * c = 2 ^ s * (2 ^ (32 * q) * val (l.take k)) := by rw [hv, Nat.pow_add]; ac_rfl
  have st := up_step (x := l.getD k 0) hv'
  rw [up_carry hc (by omega)] at st
  rw [val_snoc, hl, ← Nat.add_assoc q k 1, pw_succ, st, val_take_succ', Nat.mul_add, Nat.pow_add, Nat.pow_add, pw]
  congr 1
  · ac_rfl
  · rw [pw]; ac_rfl
set_option maxRecDepth 100000 in
set_option maxHeartbeats 4000000 in
theorem up_any (va : Value) (l : List Nat) (B : Nat) (w : World) (ha : WAt TW w va l) (oa : Ok l) (hl : l.length ≤ 1099511627776) (hB : B ≤ 1099511627776) :
    Calls Tryz.prog 99 #[va, .int .u64 B] w (WRet (val l * 2 ^ B) w) := by
  obtain ⟨i0, hi0, hz0, hz1, hz2⟩ := info_parts infoW
  obtain ⟨aa, ca, rfl⟩ := ha.slice
  have HA := Lib.hid ha; have OA := Lib.hid oa
  clear ha oa
  generalize hL : l.length = m at *
  have HL := Lib.hid hL
  by_cases hm0 : m = 0
  · have : l = [] := List.eq_nil_of_length_eq_zero (by omega)
    have hv : val l * 2 ^ B = 0 := by rw [this, val_nil, Nat.zero_mul]
    rw [hv]
    clear hL hv this
    subst hm0
    go_enter Tryz.func99, Tryz.ntmps99
    go_wp2_with fail
    go_ret
    exact WRet.mk (.inl ⟨rfl, _, _, rfl, fun _ => rfl⟩) .nil .nil rfl (Below.refl _ _)
  · have hm0' : ((m : Int) == 0) = false := by rw [beq_eq_false_iff_ne]; omega
    have p1 : (m : Int) ≤ 1099511627776 := by omega
    have p2 : (B : Int) ≤ 1099511627776 := by omega
    obtain ⟨q, s, hq, hs⟩ : ∃ q s, B = 32 * q + s ∧ s < 32 := ⟨B / 32, B % 32, by omega, by omega⟩
    have eq1 : (B : Int) / 32 = (q : Int) := by omega
    obtain ⟨sI, eq2, hsN⟩ : ∃ sI : Int, (B : Int) % 32 = sI ∧ sI = (s : Int) := ⟨_, rfl, by omega⟩
    have hsI : sI < 32 := by omega
    have hsI0 : 0 ≤ sI := by omega
    have hS1 : sI.toNat = s := by omega
    have hS2 : (32 - sI).toNat = 32 - s := by omega
    have HSN := Lib.hid hsN
    clear hsN
    have hqI : (q : Int) ≤ 1099511627776 := by omega
    have hmk := run_make (P := Tryz.prog) w 58 TW i0 (.int .u32 0) Tryz.underlying58 hi0 hz0 .u64 .u64 (q : Int) ((m : Int) + (q : Int) + 1) (by omega) (by omega) (by rw [hz2]; omega) (by omega)
    have e1 : ((m : Int) + (q : Int) + 1).toNat = m + q + 1 := by omega
    rw [e1, hz1, Int.toNat_natCast, Nat.mul_one] at hmk
    have HQ := Lib.hid hq; have HS := Lib.hid hs; have HLB := Lib.hid hl; have HBB := Lib.hid hB
    clear hL hm0 hl hB hq hs e1
    go_enter Tryz.func99, Tryz.ntmps99
    go_wp2_with fail
    rw [eq2]
    obtain ⟨G, hG⟩ : ∃ G, w.heap.size = G := ⟨_, rfl⟩
    have hown := own_made w q (m + q + 1) (by omega) (by unfold maxLen; omega) (Nat.le_refl _)
    have hB1 := below_alloc w (.cells (madeCells #[.int .u32 0] (m + q + 1)) TW)
    rw [hG] at hown hB1 ⊢
    have HG := Lib.hid hG
    have HO1 := Lib.hid hown; have HB1 := Lib.hid hB1
    clear hG hmk hown hB1 eq1 eq2
    generalize (w.alloc (.cells (madeCells #[.int .u32 0] (m + q + 1)) TW)) = w1 at *
    go_loopw [5, 7, 8] (fun so sc si wr => ∃ (k c : Nat) (O : List Nat), k ≤ m ∧ si = .int .i64 k ∧ sc = .int .u32 c ∧ so = .slice (some ⟨G, 0, none⟩) (q + k) (m + q + 1) ∧ wr.ownsRow G TW 1 (.slice (some ⟨G, 0, none⟩) (q + k) (m + q + 1)) (q + k) (O.map wv) ∧ UpV l O q s k c ∧ Below G w wr) (fun _ _ si _ => m - (intOf si).toNat)
    case atStart => exact ⟨0, 0, List.replicate q 0, by omega, rfl, rfl, rfl, HO1.out, ⟨Nat.two_pow_pos s, by simp, .replicate _, by rw [val_replicate]; simp [val]⟩, HB1.out⟩
    case round =>
      obtain ⟨k, c, O, hk, rfl, rfl, rfl, ho, hv, hb⟩ := hrel
      have HO := Lib.hid ho; have HV := Lib.hid hv
      clear ho hv
      by_cases hlt : k < m
      · have hlt' : (k : Int) < (m : Int) := by omega
        obtain ⟨e1, b1, o1, rfl, q1, t1, f1⟩ := wcell HA.out (by have := HL.out; omega)
        have g1 : wr.cell? ⟨b1, o1 + k, none⟩ = some (.int .u32 (l.getD k 0 : Nat)) := (hb.cell (p := ⟨b1, o1 + k, none⟩) (by have := HG.out; have := t1.lt; show b1 < G; omega)).trans (f1 k (by have := HL.out; omega))
        have q1' : (m : Int) ≤ (ca : Int) := by have := HL.out; omega
        have hbG : b1 < G := by have := HG.out; have := t1.lt; omega
        have hx := OA.out.get k
        have hxI : (l.getD k 0 : Int) < 4294967296 := by omega
        have HX := Lib.hid hx
        have hv2 := HV.out
        have hst := hv2.step HS.out hx
        have HST := Lib.hid hst
        clear e1 q1 t1 f1 hx hst hv2
        generalize l.getD k 0 = x at *
        have hub := up_bits (x := x) HV.out.1 HS.out
        have HUB := Lib.hid hub
        clear hub
        by_cases hs0 : s = 0
        · have hs0' : ¬ 0 < sI := by have := HSN.out; omega
          have HS0 := Lib.hid hs0
          clear hs0
          go_wp2_with (at_builtin; go_loud (refine wpList_append_fits _ rfl _ _ 58 rfl G TW i0 1 Tryz.underlying58 hi0 hz1 G (q + k) (m + q + 1) (O.map wv) rfl (HO.out.alloc _) ⟨_, 0, none⟩ 1 1 [.int .u32 (bits .or .u32 ((x : Int) * 2 ^ s % 4294967296) (c : Int))] rfl rfl (World.news_of_block (cs := #[.int .u32 (bits .or .u32 ((x : Int) * 2 ^ s % 4294967296) (c : Int))]) (t := TW) (fr := (0, 0)) (heap_alloc_new _ _)) (by simp [Value.oneCell']) (by omega) ?_))
          intro w2 ho2 hgr
          have hb2 : Below G w w2 := Below.grown (hb.alloc (by have := HO.out.lt G rfl; omega) _) hgr (by simp; have := HO.out.lt G rfl; omega) (fun k hk => by cases hk; exact Nat.le_refl _)
          have e3 : O.map wv ++ [.int .u32 (bits .or .u32 ((x : Int) * 2 ^ s % 4294967296) (c : Int))] = (O ++ [(x * 2 ^ s + c) % 4294967296]).map wv := by
            rw [map_snoc, HUB.out]; rfl
          rw [e3] at ho2
          have hgk : w2.cell? ⟨b1, o1 + k, none⟩ = wr.cell? ⟨b1, o1 + k, none⟩ := (hb2.cell (p := ⟨b1, o1 + k, none⟩) hbG).trans (hb.cell (p := ⟨b1, o1 + k, none⟩) hbG).symm
          have HO2 := Lib.hid ho2; have HB2 := Lib.hid hb2
          clear ho2 hb2 hgr e3
          clear hS1 hS2 hqI p2 hm0' hxI g1 q1' hi0 hz0 hz1 hz2 hgk
          go_wp2
          go_roundw
          case rel =>
            refine ⟨k + 1, 0, O ++ [(x * 2 ^ s + c) % 4294967296], by omega, by go_num, rfl, rfl, HO2.out, ?_, HB2.out⟩
            have hz : x / 2 ^ (32 - s) = 0 := Nat.div_eq_of_lt (by have := HX.out; rw [HS0.out]; exact this)
            have := HST.out
            rw [hz] at this
            exact this
          case measure => simp [intOf]; omega
        · have hs0' : 0 < sI := by have := HSN.out; omega
          have HS0 := Lib.hid hs0
          clear hs0
          go_wp2_with (at_builtin; go_loud (refine wpList_append_fits _ rfl _ _ 58 rfl G TW i0 1 Tryz.underlying58 hi0 hz1 G (q + k) (m + q + 1) (O.map wv) rfl (HO.out.alloc _) ⟨_, 0, none⟩ 1 1 [.int .u32 (bits .or .u32 ((x : Int) * 2 ^ s % 4294967296) (c : Int))] rfl rfl (World.news_of_block (cs := #[.int .u32 (bits .or .u32 ((x : Int) * 2 ^ s % 4294967296) (c : Int))]) (t := TW) (fr := (0, 0)) (heap_alloc_new _ _)) (by simp [Value.oneCell']) (by omega) ?_))
          intro w2 ho2 hgr
          have hb2 : Below G w w2 := Below.grown (hb.alloc (by have := HO.out.lt G rfl; omega) _) hgr (by simp; have := HO.out.lt G rfl; omega) (fun k hk => by cases hk; exact Nat.le_refl _)
          have e3 : O.map wv ++ [.int .u32 (bits .or .u32 ((x : Int) * 2 ^ s % 4294967296) (c : Int))] = (O ++ [(x * 2 ^ s + c) % 4294967296]).map wv := by
            rw [map_snoc, HUB.out]; rfl
          rw [e3] at ho2
          have hgk : w2.cell? ⟨b1, o1 + k, none⟩ = wr.cell? ⟨b1, o1 + k, none⟩ := (hb2.cell (p := ⟨b1, o1 + k, none⟩) hbG).trans (hb.cell (p := ⟨b1, o1 + k, none⟩) hbG).symm
          have HO2 := Lib.hid ho2; have HB2 := Lib.hid hb2
          clear ho2 hb2 hgr e3
          have g2 : w2.cell? ⟨b1, o1 + k, none⟩ = some (.int .u32 x) := hgk.trans g1
          clear hS1 hqI p2 hm0' g1 hi0 hz0 hz1 hz2 hgk
          go_wp2
          go_roundw
          case rel => exact ⟨k + 1, x / 2 ^ (32 - s), O ++ [(x * 2 ^ s + c) % 4294967296], by omega, by go_num, congrArg (Value.int .u32) (by rw [Int.natCast_ediv, Int.natCast_pow]; rfl), rfl, HO2.out, HST.out, HB2.out⟩
          case measure => simp [intOf]; omega
      · have hge : ¬ (k : Int) < (m : Int) := by omega
        obtain rfl : k = m := by omega
        have hLt : l.take k = l := take_all (by have := HL.out; omega)
        obtain ⟨hc, hol, oO, hv⟩ := HV.out
        rw [hLt, ← HQ.out] at hv
        have hcW : c < 4294967296 := Nat.lt_trans hc (by
          have : 2 ^ s ≤ 2 ^ 31 := Nat.pow_le_pow_right (by decide) (by have := HS.out; omega)
          omega)
        have HVV := Lib.hid hv; have HOL := Lib.hid hol; have OO := Lib.hid oO; have HC := Lib.hid hcW
        clear hLt hc hol oO hv hcW HV hS1 hS2 hsI hsI0 hqI p2 hm0'
        go_wp2_with (at_builtin; refine wpList_append_fits _ rfl _ _ 58 rfl G TW i0 1 Tryz.underlying58 hi0 hz1 G (q + k) (k + q + 1) (O.map wv) rfl (HO.out.alloc _) ⟨_, 0, none⟩ 1 1 [wv c] rfl rfl (World.news_of_block (cs := #[wv c]) (t := TW) (fr := (0, 0)) (heap_alloc_new _ _)) (by simp [wv, Value.oneCell']) (by omega) ?_)
        intro w2 ho2 hgr
        have hb2 : Below G w w2 := Below.grown (hb.alloc (by have := HO.out.lt G rfl; omega) _) hgr (by simp; have := HO.out.lt G rfl; omega) (fun k hk => by cases hk; exact Nat.le_refl _)
        rw [← map_snoc] at ho2
        have hw : WAt TW w2 (.slice (some ⟨G, 0, none⟩) (q + k + 1) (k + q + 1)) (O ++ [c]) := by
          have e : (O ++ [c]).length = q + k + 1 := by rw [List.length_append, HOL.out]; rfl
          refine WAt.of_own (base := G) ?_
          rw [e]; exact ho2
        have HW := Lib.hid hw; have HB2 := Lib.hid hb2
        have ok2 : Ok (O ++ [c]) := OO.out.snoc HC.out
        have OK2 := Lib.hid ok2
        have hval : val (O ++ [c]) = val l * 2 ^ B := by rw [val_snoc, HOL.out, HVV.out, Nat.mul_comm]
        have HVAL := Lib.hid hval
        clear ho2 hgr hw hb2 ok2 hval hi0 hz0 hz1 hz2
        go_wp2_with fail
        refine (trimmed_any _ _ _ HW.out OK2.out (by rw [List.length_append, HOL.out]; have := HQ.out; have := HLB.out; have := HBB.out; simp; omega)).mono ?_
        rintro e w3 ⟨v3, l3, rfl, h3, ok3, nm3, hv3, hb3⟩
        go_wp2_with fail
        go_ret
        exact WRet.mk h3 ok3 nm3 (hv3.trans HVAL.out) (by rw [HG.out]; exact HB2.out.trans (hb3.mono (by have := HB2.out.size; have := HG.out; omega)))
end Go.Proofs.YtokmommlabdcdaaGreatDoor
set_option linter.unusedVariables false
set_option linter.unusedSimpArgs false
namespace Go.Proofs.YtokmommlabdcdaaGreatDoor
open Wd Fl Go.RowKit
/-- what trimmed answers: the same place, fewer words -/
def TrimR (av : Option Addr) (cv : Nat) (l : List Nat) (w : World) (e : Ending) (w' : World) : Prop := ∃ k, k ≤ l.length ∧ e = .returned (.slice av k cv) ∧ w = w' ∧ Nm (l.take k) ∧ val (l.take k) = val l
/-- a list of the call's own, at a new block's begin -/
def OwnR (n cap : Nat) (w : World) (e : Ending) (w' : World) : Prop := ∃ G l, e = .returned (.slice (some ⟨G, 0, none⟩) l.length cap) ∧ w'.ownsRow w.heap.size TW 1 (.slice (some ⟨G, 0, none⟩) l.length cap) l.length (l.map wv) ∧ Ok l ∧ Nm l ∧ val l = n ∧ Below w.heap.size w w'
theorem ownsRow_take {w : World} {base g cap n k : Nat} {e : TypeId} {xs : List Value} (h : w.ownsRow base e 1 (.slice (some ⟨g, 0, none⟩) n cap) n xs) (hk : k ≤ n) : w.ownsRow base e 1 (.slice (some ⟨g, 0, none⟩) k cap) k (xs.take k) := by
  have hl := h.1
  rcases h.2 with ⟨e1, _⟩ | ⟨g', cap', cur, e1, hbg, hg, hnc, hcm, hcs, htake⟩
  · injection e1 with e1; exact nomatch e1
  · injection e1 with e1 e2 e3
    injection e1 with e1
    injection e1 with e1 _ _
    subst e1 e3
    refine ⟨by rw [List.length_take]; omega, .inr ⟨g, cap, cur, rfl, hbg, hg, by omega, hcm, hcs, ?_⟩⟩
    rw [← htake, List.take_take, Nat.mul_one, Nat.mul_one, Nat.min_eq_left hk]
set_option maxHeartbeats 1000000 in
theorem trimmed_take (av : Option Addr) (cv : Nat) (l : List Nat) (w : World) (hv : WAt TW w (.slice av l.length cv) l) (ok : Ok l) (hl : l.length ≤ 4611686018427387904) :
    Calls Tryz.prog 98 #[.slice av l.length cv] w (TrimR av cv l w) := by
  have HV := Lib.hid hv
  rcases hv with ⟨rfl, a, cap, hve, -⟩ | ⟨b, off, cap, hve, h0, hcap, hty, hc⟩
  · clear hve
    simp only [List.length_nil]
    go_enter Tryz.func98, Tryz.ntmps98
    go_wp2_with fail
    refine wp_loop_rounds 1 ?_
    rw [rounds_succ]
    go_wp2
    go_ret
    exact ⟨0, Nat.le_refl _, rfl, rfl, .nil, rfl⟩
  · injection hve with hve1 _ hve3
    subst hve1 hve3
    have OK := Lib.hid ok; have HC := Lib.hid hc
    clear hty hc ok
    generalize hlen : l.length = len at *
    have HL := Lib.hid hlen
    clear hlen
    have p1 : (len : Int) ≤ 4611686018427387904 := by omega
    have p2 : (len : Int) ≤ (cv : Int) := by omega
    go_enter Tryz.func98, Tryz.ntmps98
    go_wp2_with fail
    go_loop [0] (fun s => ∃ k : Nat, k ≤ len ∧ s = .slice (some ⟨b, off, none⟩) k cv ∧ ∀ i, k ≤ i → l.getD i 0 = 0) (fun s => slen s)
    case atStart => exact ⟨len, Nat.le_refl _, rfl, fun i hi => getD_beyond l i (by rw [HL.out]; exact hi)⟩
    case round =>
      obtain ⟨k, hk, rfl, hz⟩ := hrel
      have HZ := Lib.hid hz
      clear hz
      cases k with
      | zero =>
        go_wp2
        go_ret
        exact ⟨0, by omega, rfl, rfl, nm_take (by omega) (.inl rfl), take_trim l 0 HZ.out⟩
      | succ j =>
        have hcell := HC.out j (by omega)
        have q : (((j + 1 : Nat) : Int) - 1) = (j : Int) := by omega
        have q2 : (0 : Int) < ((j + 1 : Nat) : Int) := by omega
        by_cases hx : l.getD j 0 = 0
        · rw [hx] at hcell
          generalize hm : j + 1 = m at *
          have q3 : (j : Int) < (m : Int) := by omega
          have q4 : (m : Int) ≤ (cv : Int) := by omega
          have HM := Lib.hid hm
          have HX := Lib.hid hx
          clear hm hx
          go_wp2
          go_round
          case rel =>
            refine ⟨j, by have := HM.out; omega, rfl, fun i hi => ?_⟩
            by_cases e : i = j
            · rw [e]; exact HX.out
            · exact HZ.out i (by have := HM.out; omega)
          case measure => have := HM.out; simp [slen]; omega
        · have hx2 : (((l.getD j 0 : Nat) : Int) == 0) = false := by rw [beq_eq_false_iff_ne]; omega
          have hn : Nm (l.take (j + 1)) := nm_take (by rw [HL.out]; exact hk) (.inr (by rw [Nat.add_sub_cancel]; exact hx))
          have ht := take_trim l (j + 1) HZ.out
          have hw := HV.out.take (j + 1) (by rw [HL.out]; exact hk)
          have HN := Lib.hid hn; have HT := Lib.hid ht; have HW := Lib.hid hw
          clear hn ht hw hx
          generalize l.getD j 0 = x at *
          generalize hm : j + 1 = m at *
          have q3 : (j : Int) < (m : Int) := by omega
          have HM := Lib.hid hm
          clear hm
          go_wp2
          go_ret
          exact ⟨m, by rw [HL.out]; exact hk, rfl, rfl, HN.out, HT.out⟩
set_option maxRecDepth 100000 in
set_option maxHeartbeats 4000000 in
theorem up_own (va : Value) (l : List Nat) (B : Nat) (w : World) (ha : WAt TW w va l) (oa : Ok l) (hl : l.length ≤ 1099511627776) (hB : B ≤ 31) (h0 : l ≠ []) :
    Calls Tryz.prog 99 #[va, .int .u64 B] w (OwnR (val l * 2 ^ B) (l.length + 1) w) := by
  obtain ⟨i0, hi0, hz0, hz1, hz2⟩ := info_parts infoW
  obtain ⟨aa, ca, rfl⟩ := ha.slice
  have HA := Lib.hid ha; have OA := Lib.hid oa
  clear ha oa
  generalize hL : l.length = m at *
  have HL := Lib.hid hL
  have hm0 : m ≠ 0 := fun e => h0 (List.eq_nil_of_length_eq_zero (by omega))
  · have hm0' : ((m : Int) == 0) = false := by rw [beq_eq_false_iff_ne]; omega
    have p1 : (m : Int) ≤ 1099511627776 := by omega
    have p2 : (B : Int) ≤ 31 := by omega
    obtain ⟨q, s, hq, hs, hq0⟩ : ∃ q s, B = 32 * q + s ∧ s < 32 ∧ q = 0 := ⟨B / 32, B % 32, by omega, by omega, by omega⟩
    have HQ0 := Lib.hid hq0
    clear hq0
    have eq1 : (B : Int) / 32 = (q : Int) := by omega
    obtain ⟨sI, eq2, hsN⟩ : ∃ sI : Int, (B : Int) % 32 = sI ∧ sI = (s : Int) := ⟨_, rfl, by omega⟩
    have hsI : sI < 32 := by omega
    have hsI0 : 0 ≤ sI := by omega
    have hS1 : sI.toNat = s := by omega
    have hS2 : (32 - sI).toNat = 32 - s := by omega
    have HSN := Lib.hid hsN
    clear hsN
    have hqI : (q : Int) ≤ 1099511627776 := by omega
    have hmk := run_make (P := Tryz.prog) w 58 TW i0 (.int .u32 0) Tryz.underlying58 hi0 hz0 .u64 .u64 (q : Int) ((m : Int) + (q : Int) + 1) (by omega) (by omega) (by rw [hz2]; omega) (by omega)
    have e1 : ((m : Int) + (q : Int) + 1).toNat = m + q + 1 := by omega
    rw [e1, hz1, Int.toNat_natCast, Nat.mul_one] at hmk
    have HQ := Lib.hid hq; have HS := Lib.hid hs; have HLB := Lib.hid hl; have HBB := Lib.hid hB
    clear hL hm0 hl hB hq hs e1
    go_enter Tryz.func99, Tryz.ntmps99
    go_wp2_with fail
    rw [eq2]
    obtain ⟨G, hG⟩ : ∃ G, w.heap.size = G := ⟨_, rfl⟩
    have hown := own_made w q (m + q + 1) (by omega) (by unfold maxLen; omega) (Nat.le_refl _)
    have hB1 := below_alloc w (.cells (madeCells #[.int .u32 0] (m + q + 1)) TW)
    rw [hG] at hown hB1 ⊢
    have HG := Lib.hid hG
    have HO1 := Lib.hid hown; have HB1 := Lib.hid hB1
    clear hG hmk hown hB1 eq1 eq2
    generalize (w.alloc (.cells (madeCells #[.int .u32 0] (m + q + 1)) TW)) = w1 at *
    go_loopw [5, 7, 8] (fun so sc si wr => ∃ (k c : Nat) (O : List Nat), k ≤ m ∧ si = .int .i64 k ∧ sc = .int .u32 c ∧ so = .slice (some ⟨G, 0, none⟩) (q + k) (m + q + 1) ∧ wr.ownsRow G TW 1 (.slice (some ⟨G, 0, none⟩) (q + k) (m + q + 1)) (q + k) (O.map wv) ∧ UpV l O q s k c ∧ Below G w wr) (fun _ _ si _ => m - (intOf si).toNat)
    case atStart => exact ⟨0, 0, List.replicate q 0, by omega, rfl, rfl, rfl, HO1.out, ⟨Nat.two_pow_pos s, by simp, .replicate _, by rw [val_replicate]; simp [val]⟩, HB1.out⟩
    case round =>
      obtain ⟨k, c, O, hk, rfl, rfl, rfl, ho, hv, hb⟩ := hrel
      have HO := Lib.hid ho; have HV := Lib.hid hv
      clear ho hv
      by_cases hlt : k < m
      · have hlt' : (k : Int) < (m : Int) := by omega
        obtain ⟨e1, b1, o1, rfl, q1, t1, f1⟩ := wcell HA.out (by have := HL.out; omega)
        have g1 : wr.cell? ⟨b1, o1 + k, none⟩ = some (.int .u32 (l.getD k 0 : Nat)) := (hb.cell (p := ⟨b1, o1 + k, none⟩) (by have := HG.out; have := t1.lt; show b1 < G; omega)).trans (f1 k (by have := HL.out; omega))
        have q1' : (m : Int) ≤ (ca : Int) := by have := HL.out; omega
        have hbG : b1 < G := by have := HG.out; have := t1.lt; omega
        have hx := OA.out.get k
        have hxI : (l.getD k 0 : Int) < 4294967296 := by omega
        have HX := Lib.hid hx
        have hv2 := HV.out
        have hst := hv2.step HS.out hx
        have HST := Lib.hid hst
        clear e1 q1 t1 f1 hx hst hv2
        generalize l.getD k 0 = x at *
        have hub := up_bits (x := x) HV.out.1 HS.out
        have HUB := Lib.hid hub
        clear hub
        by_cases hs0 : s = 0
        · have hs0' : ¬ 0 < sI := by have := HSN.out; omega
          have HS0 := Lib.hid hs0
          clear hs0
          go_wp2_with (at_builtin; go_loud (refine wpList_append_fits _ rfl _ _ 58 rfl G TW i0 1 Tryz.underlying58 hi0 hz1 G (q + k) (m + q + 1) (O.map wv) rfl (HO.out.alloc _) ⟨_, 0, none⟩ 1 1 [.int .u32 (bits .or .u32 ((x : Int) * 2 ^ s % 4294967296) (c : Int))] rfl rfl (World.news_of_block (cs := #[.int .u32 (bits .or .u32 ((x : Int) * 2 ^ s % 4294967296) (c : Int))]) (t := TW) (fr := (0, 0)) (heap_alloc_new _ _)) (by simp [Value.oneCell']) (by omega) ?_))
          intro w2 ho2 hgr
          have hb2 : Below G w w2 := Below.grown (hb.alloc (by have := HO.out.lt G rfl; omega) _) hgr (by simp; have := HO.out.lt G rfl; omega) (fun k hk => by cases hk; exact Nat.le_refl _)
          have e3 : O.map wv ++ [.int .u32 (bits .or .u32 ((x : Int) * 2 ^ s % 4294967296) (c : Int))] = (O ++ [(x * 2 ^ s + c) % 4294967296]).map wv := by
            rw [map_snoc, HUB.out]; rfl
          rw [e3] at ho2
          have hgk : w2.cell? ⟨b1, o1 + k, none⟩ = wr.cell? ⟨b1, o1 + k, none⟩ := (hb2.cell (p := ⟨b1, o1 + k, none⟩) hbG).trans (hb.cell (p := ⟨b1, o1 + k, none⟩) hbG).symm
          have HO2 := Lib.hid ho2; have HB2 := Lib.hid hb2
          clear ho2 hb2 hgr e3
          clear hS1 hS2 hqI p2 hm0' hxI g1 q1' hi0 hz0 hz1 hz2 hgk
          go_wp2
          go_roundw
          case rel =>
            refine ⟨k + 1, 0, O ++ [(x * 2 ^ s + c) % 4294967296], by omega, by go_num, rfl, rfl, HO2.out, ?_, HB2.out⟩
            have hz : x / 2 ^ (32 - s) = 0 := Nat.div_eq_of_lt (by have := HX.out; rw [HS0.out]; exact this)
            have := HST.out
            rw [hz] at this
            exact this
          case measure => simp [intOf]; omega
        · have hs0' : 0 < sI := by have := HSN.out; omega
          have HS0 := Lib.hid hs0
          clear hs0
          go_wp2_with (at_builtin; go_loud (refine wpList_append_fits _ rfl _ _ 58 rfl G TW i0 1 Tryz.underlying58 hi0 hz1 G (q + k) (m + q + 1) (O.map wv) rfl (HO.out.alloc _) ⟨_, 0, none⟩ 1 1 [.int .u32 (bits .or .u32 ((x : Int) * 2 ^ s % 4294967296) (c : Int))] rfl rfl (World.news_of_block (cs := #[.int .u32 (bits .or .u32 ((x : Int) * 2 ^ s % 4294967296) (c : Int))]) (t := TW) (fr := (0, 0)) (heap_alloc_new _ _)) (by simp [Value.oneCell']) (by omega) ?_))
          intro w2 ho2 hgr
          have hb2 : Below G w w2 := Below.grown (hb.alloc (by have := HO.out.lt G rfl; omega) _) hgr (by simp; have := HO.out.lt G rfl; omega) (fun k hk => by cases hk; exact Nat.le_refl _)
          have e3 : O.map wv ++ [.int .u32 (bits .or .u32 ((x : Int) * 2 ^ s % 4294967296) (c : Int))] = (O ++ [(x * 2 ^ s + c) % 4294967296]).map wv := by
            rw [map_snoc, HUB.out]; rfl
          rw [e3] at ho2
          have hgk : w2.cell? ⟨b1, o1 + k, none⟩ = wr.cell? ⟨b1, o1 + k, none⟩ := (hb2.cell (p := ⟨b1, o1 + k, none⟩) hbG).trans (hb.cell (p := ⟨b1, o1 + k, none⟩) hbG).symm
          have HO2 := Lib.hid ho2; have HB2 := Lib.hid hb2
          clear ho2 hb2 hgr e3
          have g2 : w2.cell? ⟨b1, o1 + k, none⟩ = some (.int .u32 x) := hgk.trans g1
          clear hS1 hqI p2 hm0' g1 hi0 hz0 hz1 hz2 hgk
          go_wp2
          go_roundw
          case rel => exact ⟨k + 1, x / 2 ^ (32 - s), O ++ [(x * 2 ^ s + c) % 4294967296], by omega, by go_num, congrArg (Value.int .u32) (by rw [Int.natCast_ediv, Int.natCast_pow]; rfl), rfl, HO2.out, HST.out, HB2.out⟩
          case measure => simp [intOf]; omega
      · have hge : ¬ (k : Int) < (m : Int) := by omega
        obtain rfl : k = m := by omega
        have hLt : l.take k = l := take_all (by have := HL.out; omega)
        obtain ⟨hc, hol, oO, hv⟩ := HV.out
        rw [hLt, ← HQ.out] at hv
        have hcW : c < 4294967296 := Nat.lt_trans hc (by
          have : 2 ^ s ≤ 2 ^ 31 := Nat.pow_le_pow_right (by decide) (by have := HS.out; omega)
          omega)
        have HVV := Lib.hid hv; have HOL := Lib.hid hol; have OO := Lib.hid oO; have HC := Lib.hid hcW
        clear hLt hc hol oO hv hcW HV hS1 hS2 hsI hsI0 hqI p2 hm0'
        go_wp2_with (at_builtin; refine wpList_append_fits _ rfl _ _ 58 rfl G TW i0 1 Tryz.underlying58 hi0 hz1 G (q + k) (k + q + 1) (O.map wv) rfl (HO.out.alloc _) ⟨_, 0, none⟩ 1 1 [wv c] rfl rfl (World.news_of_block (cs := #[wv c]) (t := TW) (fr := (0, 0)) (heap_alloc_new _ _)) (by simp [wv, Value.oneCell']) (by omega) ?_)
        intro w2 ho2 hgr
        have hb2 : Below G w w2 := Below.grown (hb.alloc (by have := HO.out.lt G rfl; omega) _) hgr (by simp; have := HO.out.lt G rfl; omega) (fun k hk => by cases hk; exact Nat.le_refl _)
        rw [← map_snoc] at ho2
        have hw : WAt TW w2 (.slice (some ⟨G, 0, none⟩) (q + k + 1) (k + q + 1)) (O ++ [c]) := by
          have e : (O ++ [c]).length = q + k + 1 := by rw [List.length_append, HOL.out]; rfl
          refine WAt.of_own (base := G) ?_
          rw [e]; exact ho2
        have HO2 := Lib.hid ho2
        have HW := Lib.hid hw; have HB2 := Lib.hid hb2
        have ok2 : Ok (O ++ [c]) := OO.out.snoc HC.out
        have OK2 := Lib.hid ok2
        have hval : val (O ++ [c]) = val l * 2 ^ B := by rw [val_snoc, HOL.out, HVV.out, Nat.mul_comm]
        have HVAL := Lib.hid hval
        clear ho2 hgr hw hb2 ok2 hval hi0 hz0 hz1 hz2
        go_wp2_with fail
        have hlen : (O ++ [c]).length = q + k + 1 := by rw [List.length_append, HOL.out]; rfl
        have HLEN := Lib.hid hlen
        have hw3 := HW.out
        rw [← hlen] at hw3
        rw [← hlen]
        refine (trimmed_take _ _ _ _ hw3 OK2.out (by rw [HLEN.out]; have := HQ.out; have := HLB.out; have := HBB.out; omega)).mono ?_
        rintro e w3 ⟨j, hj, rfl, rfl, nm3, hv3⟩
        have ho4 := ownsRow_take HO2.out (k := j) (by rw [hlen] at hj; omega)
        have HO4 := Lib.hid ho4; have NM3 := Lib.hid nm3; have HV3 := Lib.hid hv3; have HJ := Lib.hid hj
        clear hw3 ho4 nm3 hv3 hj hlen
        go_wp2_with fail
        go_ret
        have hk1 : k + q + 1 = k + 1 := by have := HQ0.out; omega
        have e4 : ((O ++ [c]).take j).length = j := by rw [List.length_take]; have := HJ.out; omega
        have hve : Value.slice (some ⟨G, 0, none⟩) j (k + q + 1) = Value.slice (some ⟨G, 0, none⟩) ((O ++ [c]).take j).length (k + 1) := by rw [e4, hk1]
        refine ⟨G, (O ++ [c]).take j, congrArg Ending.returned hve, ?_, OK2.out.take j, NM3.out, HV3.out.trans HVAL.out, by rw [HG.out]; exact HB2.out⟩
        rw [e4, HG.out, ← hk1, List.map_take]
        exact HO4.out
end Go.Proofs.YtokmommlabdcdaaGreatDoor
