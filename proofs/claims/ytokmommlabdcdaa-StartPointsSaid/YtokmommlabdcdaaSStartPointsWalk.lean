/- The walk of StartPoints. -/
import Derived.Test.YtokmommlabdcdaaSSp5
import Derived.Test.YtokmommlabdcdaaSPoints
set_option linter.unusedVariables false
set_option linter.unusedSimpArgs false
set_option linter.unusedVariables false
set_option linter.unusedSimpArgs false
namespace Go.Proofs.Ytokmommlabdcdaa
open Wd Fl Go.RowKit
namespace StartPoints
set_option maxRecDepth 100000 in
set_option maxHeartbeats 2000000 in
theorem spoil_nil (w : World) : Calls Try.prog 10 #[.slice none 0 0] w fun e w' => (∃ v, e = .returned v) ∧ w = w' := by
  go_enter Try.func10, Try.ntmps10
  go_wp2_with fail
  refine wp_loop_rounds 1 ?_
  rw [rounds_succ]
  go_wp2
  go_end0
  exact ⟨⟨_, rfl⟩, rfl⟩
set_option maxRecDepth 100000 in
set_option maxHeartbeats 2000000 in
theorem bad (c k code : Int) (w : World) (hR : ∀ W, Calls Try.prog 6 #[.int .i64 c, .int .i64 k] W (PtsBad code W)) (hP : ∀ W, Calls Try.prog 7 #[.int .i64 c, .int .i64 k] W (PtsBad code W)) :
    Calls Try.prog 3 #[.int .i64 c, .int .i64 k] w fun e w' => e = .returned (.bool true) ∧ Below w.heap.size w w' := by
  have R := Lib.hid hR
  have P := Lib.hid hP
  have S := Lib.hid (fun W => sameNums_any [] (.slice none 0 0) (.slice none 0 0) W (.inl ⟨rfl, rfl⟩) (.inl ⟨rfl, rfl⟩) (by decide))
  have cc : (code == code) = true := beq_self_eq_true _
  clear hR hP
  go_enter Try.func3, Try.ntmps3
  go_wp2_with fail
  refine (awake17_any _).mono ?_
  rintro e w1 ⟨rfl, hb⟩
  have B := Lib.hid hb
  clear hb
  go_wp2_with fail
  refine (R.out _).mono ?_
  rintro e w2 ⟨rfl, rfl⟩
  go_wp2_with fail
  refine (P.out _).mono ?_
  rintro e w2 ⟨rfl, rfl⟩
  go_wp2_with fail
  refine (P.out _).mono ?_
  rintro e w2 ⟨rfl, rfl⟩
  go_wp2_with fail
  refine (num_any _ _).mono ?_
  rintro e w2 ⟨rfl, rfl⟩
  go_wp2_with fail
  refine (num_any _ _).mono ?_
  rintro e w2 ⟨rfl, rfl⟩
  go_wp2_with fail
  refine (S.out _).mono ?_
  rintro e w2 ⟨rfl, n, rfl⟩
  go_wp2_with fail
  refine (spoil_nil _).mono ?_
  rintro e w2 ⟨⟨z, rfl⟩, rfl⟩
  go_wp2_with fail
  refine (S.out _).mono ?_
  rintro e w2 ⟨rfl, n2, rfl⟩
  go_wp2_with fail
  go_ret
  exact ⟨rfl, below_drewN B.out _⟩
theorem own_apart {w w' : World} {base g cap : Nat} {T : TypeId} {v : Value} {n : Nat} {xs : List Value} (h : w.ownsRow base T 1 v n xs) (hw : Wr g 0 cap w w') (hg : ∀ b, v.ownBlock = some b → b ≠ g) : w'.ownsRow base T 1 v n xs := by
  refine ⟨h.1, ?_⟩
  rcases h.2 with h | ⟨b, cp, cur, h1, h2, h3, h4⟩
  · exact .inl h
  · subst h1
    exact .inr ⟨b, cp, cur, rfl, h2, (hw.block b (Array.getElem?_eq_some_iff.1 h3).1 (hg b rfl)).trans h3, h4⟩
theorem own_row {w : World} {base g n cap : Nat} {xs : List Value} (h : w.ownsRow base 38 1 (.slice (some ⟨g, 0, none⟩) n cap) n xs) : Row w g cap ∧ n ≤ cap ∧ cap ≤ maxLen ∧ base ≤ g ∧ g < w.heap.size := by
  rcases h.2 with ⟨h, _⟩ | ⟨b, cp, cur, h1, h2, h3, h4, h5, h6, h7⟩
  · cases h
  · injection h1 with h1 h8 h9
    injection h1 with h1
    injection h1 with h1
    subst h1 h9
    refine ⟨⟨cur, h3, ?_⟩, h4, h5, h2, (Array.getElem?_eq_some_iff.1 h3).1⟩
    simpa using h6
set_option maxRecDepth 100000 in
set_option maxHeartbeats 4000000 in
theorem ok (c : Nat) (k : Int) (w : World) (h1 : 1 ≤ c) (h2 : c ≤ 64) (h3 : -1000 ≤ k) (h4 : k ≤ 1000) :
    Calls Try.prog 3 #[.int .i64 c, .int .i64 k] w fun e w' => e = .returned (.bool true) ∧ Below w.heap.size w w' := by
  have R := Lib.hid (fun W => rpoints_ok c k W h1 h2 h3 h4)
  have P := Lib.hid (fun W => points_ok c k W h1 h2 h3 h4)
  have PL := pts_len c k
  have HC := Lib.hid (show c * 16 ≤ 140737488351232 by omega)
  obtain ⟨cs, hcs⟩ : ∃ cs, pts c k = cs := ⟨_, rfl⟩
  unfold RPts at R
  unfold PtsRet at P
  rw [hcs] at R P PL
  have HP := Lib.hid PL
  have S := Lib.hid (fun v u W h g => sameNums_any cs v u W h g (by rw [HP.out]; exact HC.out))
  clear h1 h2 h3 h4 hcs PL
  go_enter Try.func3, Try.ntmps3
  go_wp2_with fail
  refine (awake17_any _).mono ?_
  rintro e w1 ⟨rfl, hb⟩
  have B1 := Lib.hid hb
  clear hb
  go_wp2_with fail
  refine (R.out _).mono ?_
  rintro e w2 ⟨v, rfl, ho, hb⟩
  have O2 := Lib.hid ho
  have B2 := Lib.hid (B1.out.trans (hb.mono B1.out.size))
  clear ho hb
  go_wp2_with fail
  refine (P.out _).mono ?_
  rintro e w3 ⟨ga, rfl, ho, hb⟩
  have O3 := Lib.hid (own_later O2.out hb)
  have A3 := Lib.hid ho
  have B3 := Lib.hid (B2.out.trans (hb.mono B2.out.size))
  have NV : Hid (∀ b, v.ownBlock = some b → b < w2.heap.size) := Lib.hid (fun b hb => (O2.out.lt b hb).2)
  have GA : Hid (w2.heap.size ≤ ga ∧ ga < w3.heap.size) := Lib.hid (by obtain ⟨_, _, _, a, b⟩ := own_row ho; exact ⟨a, b⟩)
  clear ho hb
  go_wp2_with fail
  refine (P.out _).mono ?_
  rintro e w4 ⟨gb, rfl, ho, hb⟩
  have O4 := Lib.hid (own_later O3.out hb)
  have A4 := Lib.hid (own_later A3.out hb)
  have C4 := Lib.hid ho
  have B4 := Lib.hid (B3.out.trans (hb.mono B3.out.size))
  have GB : Hid (w3.heap.size ≤ gb) := Lib.hid (own_row ho).2.2.2.1
  clear ho hb
  go_wp2_with fail
  refine (num_any _ _).mono ?_
  rintro e w5 ⟨rfl, rfl⟩
  go_wp2_with fail
  refine (num_any _ _).mono ?_
  rintro e w5 ⟨rfl, rfl⟩
  have SA : Hid (Sl w4 (.slice (some ⟨ga, 0, none⟩) c c) cs) := Lib.hid (Sl.of_own (base := w2.heap.size) (by rw [HP.out]; exact A4.out))
  have SV : Hid (Sl w4 v cs) := Lib.hid (Sl.of_own (base := w1.heap.size) (by rw [HP.out]; exact O4.out))
  go_wp2_with fail
  refine (S.out _ _ _ SA.out SV.out).mono ?_
  rintro e w5 ⟨rfl, n, rfl⟩
  have RW := Lib.hid (own_row A4.out)
  go_wp2_with fail
  refine (spoilNums_any ga c c (w4.drewN n) RW.out.1 (Nat.le_refl _) RW.out.2.2.1).mono ?_
  rintro e w6 ⟨⟨z, rfl⟩, hw⟩
  have O6 := Lib.hid (own_apart (show (w4.drewN n).ownsRow _ _ _ _ _ _ from O4.out) hw (fun b hb => by have := NV.out b hb; have := GA.out; omega))
  have C6 := Lib.hid (own_apart (show (w4.drewN n).ownsRow _ _ _ _ _ _ from C4.out) hw (fun b hb => by
    have e : gb = b := by simpa [Value.ownBlock] using hb
    have := GA.out; have := GB.out; omega))
  have B6 := Lib.hid ((below_drewN B4.out n).trans (hw.below (by have := GA.out; have := B2.out.size; omega) (by have := B4.out.size; exact this)))
  have SB : Hid (Sl w6 (.slice (some ⟨gb, 0, none⟩) c c) cs) := Lib.hid (Sl.of_own (base := w3.heap.size) (by rw [HP.out]; exact C6.out))
  have SV6 : Hid (Sl w6 v cs) := Lib.hid (Sl.of_own (base := w1.heap.size) (by rw [HP.out]; exact O6.out))
  clear hw
  go_wp2_with fail
  refine (S.out _ _ _ SB.out SV6.out).mono ?_
  rintro e w7 ⟨rfl, n2, rfl⟩
  go_wp2_with fail
  go_ret
  exact ⟨rfl, below_drewN B6.out _⟩
end StartPoints
theorem startPoints_walk (c k : Int) (hc1 : -9223372036854775808 ≤ c) (hc2 : c < 9223372036854775808) (hk1 : -9223372036854775808 ≤ k) (hk2 : k < 9223372036854775808) (w : World) :
    Calls Try.prog 3 #[.int .i64 c, .int .i64 k] w fun e w' => e = .returned (.bool true) ∧ Below w.heap.size w w' := by
  by_cases h1 : c < 1 ∨ 64 < c
  · exact StartPoints.bad c k 170 w (fun W => rpoints_many c k W h1) (fun W => points_many c k W h1)
  · by_cases h2 : k < -1000 ∨ 1000 < k
    · exact StartPoints.bad c k 171 w (fun W => rpoints_scale c k W (by omega) (by omega) h2) (fun W => points_scale c k W (by omega) (by omega) h2)
    · obtain ⟨n, rfl⟩ : ∃ n : Nat, c = n := ⟨c.toNat, by omega⟩
      exact StartPoints.ok n k w (by omega) (by omega) (by omega) (by omega)
end Go.Proofs.Ytokmommlabdcdaa
