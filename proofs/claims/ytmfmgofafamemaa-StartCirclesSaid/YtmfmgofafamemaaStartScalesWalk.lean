/- The walk of StartScales. -/
import Derived.Test.YtmfmgofafamemaaStartAwake
namespace Go.Proofs.Ytmfmgofafamemaa
open Fl Go.RowKit
namespace StartScales
set_option maxRecDepth 100000 in
set_option maxHeartbeats 2000000 in
theorem many (c k : Int) (w : World) (h : c < 1 ∨ 64 < c) :
    Calls Try.prog 4 #[.int .i64 c, .int .i64 k] w fun e w' => e = .returned (.bool true) ∧ Below w.heap.size w w' := by
  have P0 := Lib.hid (fun k W => points_many c k W h)
  have hc : c < 1 ∨ (¬ c < 1 ∧ 64 < c) := by omega
  have hk : k < -1000 ∨ (¬ k < -1000 ∧ 1000 < k) ∨ (¬ k < -1000 ∧ ¬ 1000 < k) := by omega
  clear h
  rcases hc with hc | ⟨hc, hc2⟩ <;> rcases hk with hk | ⟨hk, hk2⟩ | ⟨hk, hk2⟩
  all_goals
    go_enter Try.func4, Try.ntmps4
    go_wp2_with fail
    refine (P0.out _ _).mono ?_
    rintro e w1 ⟨rfl, rfl⟩
    go_wp2_with fail
    refine (P0.out _ _).mono ?_
    rintro e w1 ⟨rfl, rfl⟩
    go_wp2_with (go_at_call 10; refine (num_any _ _).mono ?_; rintro e w' ⟨rfl, rfl⟩)
    refine (awake17_any _).mono ?_
    rintro e w2 ⟨rfl, hb⟩
    go_wp2_with fail
    go_ret
    exact ⟨rfl, by first | exact hb | exact below_drewN hb _⟩
set_option maxRecDepth 100000 in
set_option maxHeartbeats 2000000 in
theorem noScale (c : Nat) (k : Int) (w : World) (h1 : 1 ≤ c) (h2 : c ≤ 64) (h : k < -1000 ∨ 1000 < k) :
    Calls Try.prog 4 #[.int .i64 c, .int .i64 k] w fun e w' => e = .returned (.bool true) ∧ Below w.heap.size w w' := by
  have P0 := Lib.hid (fun W => points_ok c 0 W h1 h2 (by omega) (by omega))
  have P1 := Lib.hid (fun W => points_scale c k W (by omega) (by omega) h)
  have hk : (k < -1000 ∧ decide (-1000 ≤ k) = false) ∨ (¬ k < -1000 ∧ decide (k ≤ 1000) = false) := by
    rcases h with h | h
    · exact .inl ⟨h, decide_eq_false (by omega)⟩
    · exact .inr ⟨by omega, decide_eq_false (by omega)⟩
  have c1 : (1 : Int) ≤ (c : Int) := by omega
  have c2 : (c : Int) ≤ 64 := by omega
  clear h h1 h2
  rcases hk with ⟨hk, hk2⟩ | ⟨hk, hk2⟩
  all_goals
    go_enter Try.func4, Try.ntmps4
    go_wp2_with fail
    refine (P0.out _).mono ?_
    rintro e w1 ⟨g, rfl, ho, hb⟩
    have HB := Lib.hid hb
    clear ho hb
    go_wp2_with fail
    refine (P1.out _).mono ?_
    rintro e w2 ⟨rfl, rfl⟩
    go_wp2_with (go_at_call 10; refine (num_any _ _).mono ?_; rintro e w' ⟨rfl, rfl⟩)
    refine (awake17_any _).mono ?_
    rintro e w2 ⟨rfl, hb⟩
    go_wp2_with fail
    go_ret
    exact ⟨rfl, HB.out.trans (hb.mono HB.out.size)⟩
end StartScales
end Go.Proofs.Ytmfmgofafamemaa
