/- The contract of surdlaw18.turned: a new list of the conjugates; nothing that was there is written. The contract of surdlaw18.sized, of two words that are the same but for the signs of noughts. -/
import Derived.Test.YtokmommlabdcdaaGreatMCs
import Derived.Test.YtokmommlabdcdaaGreatMFlConj2
set_option linter.unusedVariables false
set_option linter.unusedSimpArgs false
set_option linter.unusedVariables false
set_option linter.unusedSimpArgs false
namespace Go.Proofs.YtokmommlabdcdaaGreat
open Fl Go.RowKit
def cnj (z : Cpx) : Cpx := (z.1, neg z.2)
theorem cnj_run (cs : List Cpx) (k : Nat) (hk : k < cs.length) : nth (cs.map cnj) k = cnj (nth cs k) := by
  simp [nth, List.getD_eq_getElem?_getD, hk]
set_option maxRecDepth 100000 in
set_option maxHeartbeats 3200000 in
theorem turned_any2 (bs : List Cpx) (v : Value) (w : World) (hv : Sl w v bs) (hok : BitsOk bs) :
    Calls Tryz.prog 40 #[v] w (CsRet (bs.map cnj) w) := by
  obtain ⟨i0, hi0, hz0, hz1, hz2⟩ := info_parts infoC
  obtain ⟨a, cap, hva, hs⟩ : ∃ a cap, v = .slice a bs.length cap ∧ (0 < bs.length → ∃ b off, a = some ⟨b, off, none⟩ ∧ bs.length ≤ cap ∧ Cells w b off bs) := by
    rcases hv with ⟨rfl, rfl⟩ | ⟨b, off, cap, rfl, h1, h2⟩
    · exact ⟨_, _, rfl, fun h => absurd h (by decide)⟩
    · exact ⟨_, _, rfl, fun _ => ⟨b, off, rfl, h1, h2⟩⟩
  clear hv
  by_cases h0 : bs.length = 0
  · obtain rfl : bs = [] := List.eq_nil_of_length_eq_zero h0
    subst hva
    show Calls _ _ #[.slice a 0 cap] w _
    go_enter Tryz.func40, Tryz.ntmps40
    go_wp2_with fail
    refine wp_loop_rounds 1 ?_
    rw [rounds_succ]
    go_wp2
    go_ret
    exact CsRet.mk (own_nil _ _ _ _) (Below.refl _ _)
  · obtain ⟨b, off, rfl, hcap, hc⟩ := hs (by omega)
    subst hva
    clear hs
    have HB64 := Lib.hid (fun k (hk : k < bs.length) => (BitsOk_nth hok.1 k hk).2)
    have hreach := hok.2
    generalize hlen : bs.length = len at *
    have hlb : b < w.heap.size := World.block_lt_of_cell? w _ (hc 0 (by omega))
    go_enter Tryz.func40, Tryz.ntmps40
    go_wp2_with fail
    go_loopw [3, 4] (fun out i wr => ∃ k : Nat, k ≤ len ∧ i = .int .i64 k ∧ wr.ownsRow w.heap.size 26 1 out k (((bs.map cnj).take k).map cv) ∧ Below w.heap.size w wr) (fun _ i _ => len - (intOf i).toNat)
    case atStart => exact ⟨0, by omega, rfl, own_nil _ _ _ _, Below.refl _ _⟩
    case round =>
      obtain ⟨k, hk, rfl, hown, hb⟩ := hrel
      by_cases hlt : k < len
      · obtain ⟨z, hz⟩ : ∃ z, nth bs k = z := ⟨_, rfl⟩
        have c0 : wr.cell? ⟨b, off + k, none⟩ = some (cv (nth bs k)) := (hb.cell (p := ⟨b, off + k, none⟩) hlb).trans (hc k (by omega))
        have Z64 := HB64.out k (by omega)
        rw [hz] at c0 Z64
        have HZ := Lib.hid hz
        clear hz
        obtain ⟨p1, p2⟩ := z
        have c1 : wr.cell? ⟨b, off + k, none⟩ = some (.complex .f64 p1 p2) := c0
        have HP2 := Lib.hid (show p2 < 2 ^ 64 from Z64)
        clear c0 Z64
        have hlt' : (k : Int) < (len : Int) := by omega
        have hne := own_ne hown hlb
        have hlw : b < wr.heap.size := Nat.lt_of_lt_of_le hlb hb.size
        have hlc : (len : Int) ≤ (cap : Int) := by omega
        go_wp2_with fail
        refine (conj_any p1 p2 HP2.out _).mono ?_
        rintro e w' ⟨rfl, rfl⟩
        go_wp2_with (at_builtin; refine wpList_append_own _ rfl _ _ 34 rfl w.heap.size 26 i0 (.complex .f64 0 0) 1 16 Tryz.underlying34 hi0 hz0 hz1 hz2 rfl (by decide) _ k _ rfl (hown.alloc _) ⟨wr.heap.size, 0, none⟩ 1 1 [cv (p1, neg p2)] rfl rfl (World.news_of_block (cs := #[cv (p1, neg p2)]) (t := 26) (fr := (0, 0)) (heap_alloc_new wr _)) (by simp [cv, Value.oneCell']) (by unfold maxLen; omega) (by omega) (by simp; have := hb.size; omega) ?_; intro v' w1 hown1 hgrow _; have hB : Below w.heap.size w w1 := (hb.alloc hb.size _).grown hgrow (by simp; have := hb.size; omega) (own_ge hown); have HB := Lib.hid hB; have HO := Lib.hid hown1; clear hB hown1 hgrow)
        have hT := map_take_succ (bs.map cnj) k (by rw [List.length_map]; omega)
        rw [cnj_run bs k (by omega), HZ.out] at hT
        have HT := Lib.hid hT
        clear hT
        go_wp2
        go_roundw
        case rel => exact ⟨k + 1, by omega, by go_num, by rw [HT.out]; exact HO.out, HB.out⟩
        case measure => simp [intOf]; omega
      · obtain rfl : k = len := by omega
        have hge : ¬ (k : Int) < (k : Int) := by omega
        have ht : (bs.map cnj).take k = bs.map cnj := List.take_of_length_le (by rw [List.length_map]; omega)
        rw [ht] at hown
        rw [← hlen, ← List.length_map (f := cnj)] at hown
        have HO := Lib.hid hown; clear hown ht
        go_wp2
        go_ret
        exact CsRet.mk HO.out hb
end Go.Proofs.YtokmommlabdcdaaGreat
set_option linter.unusedVariables false
set_option linter.unusedSimpArgs false
namespace Go.Proofs.YtokmommlabdcdaaGreat
open Fl Go.RowKit
theorem lk_order {x y : Nat} (h : Lk x y) (n : ¬ isNan x) : FloatKind.f64.format.order x y = some .eq := by
  rcases h with (rfl | ⟨a, _⟩) | ⟨a, b⟩
  · exact (order_self x).2 n
  · exact absurd a n
  · show Ieee.Format.order D x y = _
    rw [order_fin x y (zero_fin a) (zero_fin b), iv_zero_rg a, iv_zero_rg b]; rfl
theorem sized_any (x y : Nat) (h : Lk x y) (w : World) : Calls Tryz.prog 42 #[.float .f64 x, .float .f64 y] w fun e w' => e = .returned (.bool true) ∧ w = w' := by
  by_cases n : isNan x
  · have n' : isNan y := by
      rcases h with (rfl | ⟨_, b⟩) | ⟨a, _⟩
      · exact n
      · exact b
      · unfold isNan at n; omega
    have o1 : FloatKind.f64.format.order x x = none := order_nan (.inl n)
    have o2 : FloatKind.f64.format.order y y = none := order_nan (.inl n')
    clear h n n'
    go_enter Tryz.func42, Tryz.ntmps42
    go_wp2
    go_ret
    exact ⟨rfl, rfl⟩
  · have o1 : FloatKind.f64.format.order x x = some .eq := (order_self x).2 n
    have o2 := lk_order h n
    clear h n
    go_enter Tryz.func42, Tryz.ntmps42
    go_wp2
    go_ret
    exact ⟨rfl, rfl⟩
end Go.Proofs.YtokmommlabdcdaaGreat
