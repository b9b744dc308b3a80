/- The contract of surdlaw0.Cs: a new list of the numbers of the words; nothing that was there is written. -/
import Derived.Test.YtokmommlabdcdaaGreatMCpx
import Derived.Test.YtokmommlabdcdaaGreatMFlArgs2
import Derived.Deep.RegionHeld3
import Derived.Deep.AppendLies
import Derived.OwnWalk
import Derived.Deep.DeepMust
set_option linter.unusedVariables false
set_option linter.unusedSimpArgs false
namespace Go.Proofs.YtokmommlabdcdaaGreat
open Fl Go.RowKit

theorem infoC : (Tryz.prog.info? 26).map (fun i => (i.zero, i.size, i.bytes)) = some (some (.complex .f64 0 0), 1, 16) := by kernel_rfl

def CsRet (bs : List Cpx) (w : World) (e : Ending) (w' : World) : Prop := ∃ v, e = .returned v ∧ w'.ownsRow w.heap.size 26 1 v bs.length (bs.map cv) ∧ Below w.heap.size w w'

theorem CsRet.mk {bs : List Cpx} {w w' : World} {v : Value} (h : w'.ownsRow w.heap.size 26 1 v bs.length (bs.map cv)) (hb : Below w.heap.size w w') : CsRet bs w (.returned v) w' := ⟨v, rfl, h, hb⟩

set_option maxRecDepth 100000 in
set_option maxHeartbeats 3200000 in
theorem cs_any (bs : List Cpx) (v : Value) (w : World) (hv : BitsAt w v bs) (hok : BitsOk bs) :
    Calls Tryz.prog 25 #[v] w (CsRet bs w) := by
  obtain ⟨i0, hi0, hz0, hz1, hz2⟩ := info_parts infoC
  rcases hv with ⟨rfl, a, cap, rfl⟩ | ⟨b, off, cap, rfl, hpos, hcap, hc⟩
  · go_enter Tryz.func25, Tryz.ntmps25
    go_wp2_with fail
    refine wp_loop_rounds 1 ?_
    rw [rounds_succ]
    go_wp2
    go_ret
    exact CsRet.mk (own_nil _ _ _ _) (Below.refl _ _)
  · have hreach := hok.2
    generalize hlen : bs.length = len at *
    have hlb : b < w.heap.size := World.block_lt_of_cell? w _ (hc 0 (by omega)).1
    go_enter Tryz.func25, Tryz.ntmps25
    go_wp2_with fail
    go_loopw [3, 4] (fun out i wr => ∃ k : Nat, k ≤ len ∧ i = .int .i64 k ∧ wr.ownsRow w.heap.size 26 1 out k ((bs.take k).map cv) ∧ Below w.heap.size w wr) (fun _ i _ => len - (intOf i).toNat)
    case atStart => exact ⟨0, by omega, rfl, own_nil _ _ _ _, Below.refl _ _⟩
    case round =>
      obtain ⟨k, hk, rfl, hown, hb⟩ := hrel
      by_cases hlt : k < len
      · have c1 : wr.cell? ⟨b, off + k * 2, none⟩ = some (.int .u64 ((nth bs k).1 : Nat)) := by rw [hb.cell hlb]; exact (hc k hlt).1
        have c2 : wr.cell? ⟨b, off + k * 2 + 1, none⟩ = some (.int .u64 ((nth bs k).2 : Nat)) := by rw [hb.cell hlb]; exact (hc k hlt).2
        have hlt' : (k : Int) < (len : Int) := by omega
        have hne := own_ne hown hlb
        have hlw : b < wr.heap.size := Nat.lt_of_lt_of_le hlb hb.size
        have hlc : (len : Int) ≤ (cap : Int) := by omega
        go_wp2_with fail
        go_region_held3 (fun w' => w'.cell? ⟨b, off + k * 2, none⟩ = some (.int .u64 ((nth bs k).1 : Nat)) ∧ w'.cell? ⟨b, off + k * 2 + 1, none⟩ = some (.int .u64 ((nth bs k).2 : Nat)))
          (first | go_keep | ((try dsimp only); refine ⟨?_, ?_⟩ <;> (rw [hgrow.cell_far _ (by simp; omega) (Ne.symm hne)]; first | assumption | (simp; assumption) | go_simp)))
          ((first
            | (go_at_call 13; (refine (c_any _ _ _).mono ?_); rintro e w' ⟨rfl, rfl⟩)
            | (refine step_append_lies _ (by rfl) _ _ _ (by rfl) w.heap.size 26 i0 _ 1 16 Tryz.underlying34 hi0 hz0 hz1 hz2 rfl (by omega) _ k ((bs.take k).map cv) (by rfl) ((hown.alloc _).drew) ⟨wr.heap.size, 0, none⟩ 1 1 [cv (nth bs k)] (by rfl) (by rfl) (World.news_of_block (cs := #[cv (nth bs k)]) (t := 26) (fr := (0, 0)) (heap_alloc_new wr _)) (by simp [cv, Value.oneCell']) (by omega) (by unfold maxLen; omega) (by omega) (by simp; have := hb.size; omega) (wr.heap.size + 1) (by simp) ?_; intro gg cap' w1 hown1 hgrow hat hlt2)))
        have hB : Below w.heap.size w w1 := ((hb.alloc hb.size _).drew).grown hgrow (by simp; have := hb.size; omega) (own_ge hown)
        have hT := map_take_succ bs k (by omega)
        have HT := Lib.hid hT; have HB := Lib.hid hB; have HO := Lib.hid hown1
        clear hT hB hown1 hown hgrow hat c1 c2 hne
        go_wp2
        go_roundw
        case rel => exact ⟨k + 1, by omega, by go_num, by rw [HT.out]; exact HO.out, HB.out⟩
        case measure => simp [intOf]; omega
      · obtain rfl : k = len := by omega
        have hge : ¬ (k : Int) < (k : Int) := by omega
        have ht : bs.take k = bs := List.take_of_length_le (by omega)
        rw [ht] at hown
        rw [← hlen] at hown
        have HO := Lib.hid hown; clear hown ht
        go_wp2
        go_ret
        exact CsRet.mk HO.out hb
end Go.Proofs.YtokmommlabdcdaaGreat
