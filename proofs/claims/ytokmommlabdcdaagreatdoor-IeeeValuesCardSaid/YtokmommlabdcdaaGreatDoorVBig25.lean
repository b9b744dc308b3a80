/- Contract of surdbig.digit: one word of a quotient, in place. -/
import Derived.Test.YtokmommlabdcdaaGreatDoorVBig7
import Derived.Test.YtokmommlabdcdaaGreatDoorVBm2
import Derived.Test.YtokmommlabdcdaaGreatDoorVFlRel
set_option linter.unusedVariables false
set_option linter.unusedSimpArgs false
namespace Go.Proofs.YtokmommlabdcdaaGreatDoor
open Wd Fl Go.RowKit
set_option linter.unusedVariables false
set_option linter.unusedSimpArgs false
/-- the words of a row in block g, from off on -/
def UAt (w : World) (g off : Nat) (X : List Nat) : Prop := Ty TW w g ∧ ∀ i, i < X.length → w.cell? ⟨g, off + i, none⟩ = some (.int .u32 (X.getD i 0 : Nat))
theorem UAt.of {w : World} {g off n cap : Nat} {X : List Nat} (h : WAt TW w (.slice (some ⟨g, off, none⟩) n cap) X) (h0 : 0 < X.length) : UAt w g off X := by
  rcases h with ⟨rfl, _⟩ | ⟨b, o, c, e, _, _, ht, hl⟩
  · simp at h0
  · injection e with e1 _ _
    injection e1 with e1
    injection e1 with e1 e2 _
    subst e1 e2
    exact ⟨ht, hl⟩
theorem UAt.set {w : World} {g off : Nat} {X : List Nat} (h : UAt w g off X) (i y : Nat) (hi : i < X.length) : UAt (w.setCell ⟨g, off + i, none⟩ (.int .u32 (y : Nat))) g off (X.set i y) := by
  obtain ⟨ht, hl⟩ := h
  refine ⟨ht.set _ _ _, fun j hj => ?_⟩
  rw [List.length_set] at hj
  have hi2 := hl i hi
  obtain ⟨cur, hc⟩ := ht
  have hh := heap_setCell_same w g (off + i) cur TW (.int .u32 (y : Nat)) hc
  rw [cell_of_row _ _ _ _ _ _ hc] at hi2
  have hs : off + i < cur.size := (Array.getElem?_eq_some_iff.1 hi2).1
  rw [cell_of_row _ _ _ _ _ _ hh, getD_set _ _ _ _ hi]
  by_cases e : j = i
  · subst e; rw [if_pos rfl, Array.getElem?_setIfInBounds_self_of_lt hs]
  · rw [if_neg e, Array.getElem?_setIfInBounds_ne (by omega), ← cell_of_row _ _ _ _ _ _ hc]; exact hl j hj
theorem UAt.wat {w : World} {g off cap : Nat} {X : List Nat} (h : UAt w g off X) (h0 : 0 < X.length) (hc : X.length ≤ cap) : WAt TW w (.slice (some ⟨g, off, none⟩) X.length cap) X :=
  .inr ⟨g, off, cap, rfl, h0, hc, h.1, h.2⟩
/-- what digit answers -/
def DigRet (g off n : Nat) (l m : List Nat) (w : World) (e : Ending) (w' : World) : Prop :=
  e = .returned (.int .u32 ((val l / val m : Nat) : Int)) ∧ Wr g off (off + n) w w' ∧ ∃ l', l'.length = n ∧ Ok l' ∧ val l' = val l % val m ∧ UAt w' g off l'
theorem i64_or_join (x y : Nat) (hx : x < 4294967296) (hy : y < 4294967296) : bits .or .u64 ((x : Int) * 4294967296) (y : Int) = ((x * 4294967296 + y : Nat) : Int) := by
  have h := u64_or_nat (x * 4294967296) y (by omega) (by omega)
  rw [Int.natCast_mul, show ((4294967296 : Nat) : Int) = 4294967296 from rfl] at h
  rw [h, nat_join 32 _ _ (by omega) hy]
def trM (v : Value) : Nat := (intOf v).toNat
/-- the trial's slots and world -/
def TrL (t v Q : Nat) (w : World) (sg sr : Value) (wr : World) : Prop := ∃ (G R : Int) (n : Nat), sg = .int .u64 G ∧ sr = .int .u64 R ∧ TrI t v Q G R ∧ wr = w.drewN n
theorem TrL.mk {t v Q : Nat} {w wr : World} {G R : Int} {n k : Nat} (h : TrI t v Q G R) (e : wr = w.drewN n) : TrL t v Q w (.int .u64 G) (.int .u64 R) (wr.drewN k) := ⟨G, R, n + k, rfl, rfl, h, by rw [e, World.drewN_drewN]⟩
theorem mask64 {n : Int} (h0 : 0 ≤ n) (h1 : n < 18446744073709551616) : bits .and .u64 n 4294967295 = n % 4294967296 := by
  have key : (BitVec.ofInt 64 n &&& BitVec.ofInt 64 4294967295).toNat = (n % ((2 ^ 64 : Nat) : Int)).toNat % 2 ^ 32 := by
    rw [BitVec.toNat_and, BitVec.toNat_ofInt, show (BitVec.ofInt 64 4294967295).toNat = 2 ^ 32 - 1 by decide, Nat.and_two_pow_sub_one_eq_mod]
  show IntKind.u64.wrap ((BitVec.ofInt 64 n &&& BitVec.ofInt 64 4294967295).toNat : Nat) = n % 4294967296
  rw [key, u64w _ (by omega) (by omega)]
  omega
/-- the subtraction's slots and world -/
def SubL (l m : List Nat) (G n g off : Nat) (w : World) (sc sb si : Value) (wr : World) : Prop :=
  ∃ (i : Nat) (C Bo : Int) (X : List Nat), i ≤ n ∧ sc = .int .u64 C ∧ sb = .int .u64 Bo ∧ si = .int .i64 (i : Int) ∧ SubV l m G n i C Bo X ∧ UAt wr g off X ∧ Wr g off (off + n) w wr
def BackL (X0 m : List Nat) (n g off : Nat) (w : World) (sc si : Value) (wr : World) : Prop :=
  ∃ (i : Nat) (C : Int) (X : List Nat), i ≤ n ∧ sc = .int .u64 C ∧ si = .int .i64 (i : Int) ∧ BackV X0 m n i C X ∧ UAt wr g off X ∧ Wr g off (off + n) w wr
theorem wr_store {g lo hi o : Nat} {w wr : World} (h : Wr g lo hi w wr) (v : Value) (h1 : lo ≤ o) (h2 : o < hi) : Wr g lo hi w (wr.setCell ⟨g, o, none⟩ v) := h.trans (Wr.set v h1 h2)
theorem SubL.next {l m X : List Nat} {G n g off i : Nat} {w wr : World} {C b p q b' v c' : Int} (hS : SubV l m G n i C b X) (hU : UAt wr g off X) (hW : Wr g off (off + n) w wr) (hi : i < n) (om : Ok m) (hG : G < 4294967296)
    (hp : p = C + ((G * m.getD i 0 : Nat) : Int)) (hq : p % 4294967296 = q) (hb : b' = 0 ∨ b' = 1) (hv : v + (q + b) = ((X.getD i 0 : Nat) : Int) + 4294967296 * b') (h0 : 0 ≤ v) (h1 : v < 4294967296) (e : c' = p / 4294967296) :
    SubL l m G n g off w (.int .u64 c') (.int .u64 b') (.int .i64 ((i : Int) + 1)) (wr.setCell ⟨g, off + i, none⟩ (.int .u32 v)) := by
  obtain ⟨d, rfl⟩ : ∃ d : Nat, v = d := ⟨v.toNat, by omega⟩
  have hl := hS.bounds.2.2.2.2.1
  have st := hS.step hi om hG hp hq.symm hb hv (by omega)
  subst e
  exact ⟨i + 1, _, _, X.set i d, by omega, rfl, rfl, congrArg (Value.int .i64) (by omega), st, hU.set i d (by omega), wr_store hW _ (by omega) (by omega)⟩
theorem BackL.next {X0 m X : List Nat} {n g off i : Nat} {w wr : World} {C x : Int} (hS : BackV X0 m n i C X) (hU : UAt wr g off X) (hW : Wr g off (off + n) w wr) (hi : i < n) (om : Ok m) (hx : x = ((X.getD i 0 : Nat) : Int) + C + ((m.getD i 0 : Nat) : Int)) :
    BackL X0 m n g off w (.int .u64 (x / 4294967296)) (.int .i64 ((i : Int) + 1)) (wr.setCell ⟨g, off + i, none⟩ (.int .u32 (x % 4294967296))) := by
  have hl := hS.bounds.2.2.1
  have st := hS.step hi om hx
  have e : x % 4294967296 = (((x % 4294967296).toNat : Nat) : Int) := by omega
  rw [e]
  exact ⟨i + 1, _, _, by omega, rfl, congrArg (Value.int .i64) (by omega), st, hU.set i _ (by omega), wr_store hW _ (by omega) (by omega)⟩
theorem wr_drew {g lo hi n : Nat} {w wr : World} (e : wr = w.drewN n) : Wr g lo hi w wr := by rw [e]; exact Wr.of_below _ _ _ (below_drewN (Below.refl _ _) n)
set_option maxRecDepth 100000 in
set_option maxHeartbeats 4000000 in
theorem digit_any (l m : List Nat) (K Q g off cap b o cv : Nat) (w : World) (H : DigH l m K Q) (hu : UAt w g off l) (hv : WAt TW w (.slice (some ⟨b, o, none⟩) (K + 2) cv) m) (hbg : b ≠ g) (hK : K ≤ 1099511627776) (hcap : K + 3 ≤ cap) :
    Calls Tryz.prog 123 #[.slice (some ⟨g, off, none⟩) (K + 3) cap, .slice (some ⟨b, o, none⟩) (K + 2) cv] w (DigRet g off (K + 3) l m w) := by
  obtain ⟨e1, b', o', e2, qc, tyV, fV⟩ := wcell hv (by rw [H.hm]; omega)
  injection e2 with e2
  injection e2 with e3 e4 _
  subst e3 e4
  have c3 := hu.2 (K + 2) (by rw [H.hl]; omega)
  have c2 := hu.2 (K + 1) (by rw [H.hl]; omega)
  have c1 := hu.2 K (by rw [H.hl]; omega)
  have d2 := fV (K + 1) (by rw [H.hm]; omega)
  have d1 := fV K (by rw [H.hm]; omega)
  have i3 := H.ol.get (K + 2)
  have i2 := H.ol.get (K + 1)
  have i1 := H.ol.get K
  have j2 := H.om.get (K + 1)
  have j1 := H.om.get K
  have tS := H.startS
  have RND := Lib.hid (fun g r => H.round (g := g) (r := r))
  have EXI := Lib.hid (fun g r => H.exit (g := g) (r := r))
  have hv2 := H.hv
  have htop := H.top
  have HH := Lib.hid H; have HU := Lib.hid hu; have HV := Lib.hid hv; have FV := Lib.hid fV; have TYV := Lib.hid tyV
  have hl := H.hl
  have hm := H.hm
  have H0 := hm
  have HL := Lib.hid hl; have HM := Lib.hid hm
  clear H hu hv fV tyV e1 hl hm
  generalize l.getD (K + 2) 0 = x3 at *
  generalize l.getD (K + 1) 0 = x2 at *
  generalize l.getD K 0 = x1 at *
  generalize m.getD (K + 1) 0 = y2 at *
  generalize m.getD K 0 = y1 at *
  obtain ⟨k3, hk3⟩ : ∃ k, K + 3 = k := ⟨_, rfl⟩
  obtain ⟨k2, hk2⟩ : ∃ k, K + 2 = k := ⟨_, rfl⟩
  obtain ⟨k1, hk1⟩ : ∃ k, K + 1 = k := ⟨_, rfl⟩
  rw [hk3, hk2]
  rw [H0] at qc
  rw [hk2] at c3 qc
  rw [hk1] at c2 d2
  have p1 : (k2 : Int) - 1 = (k1 : Int) := by omega
  have p2 : (k2 : Int) - 2 = (K : Int) := by omega
  have p3 : (k2 : Int) < (k3 : Int) := by omega
  have p4 : (k1 : Int) < (k2 : Int) := by omega
  have p5 : (K : Int) < (k1 : Int) := by omega
  have p6 : (k3 : Int) ≤ (cap : Int) := by omega
  have p7 : (k2 : Int) ≤ (cv : Int) := by omega
  have p8 : (k3 : Int) ≤ 1099511627779 := by omega
  have n1 : (x3 : Int) < 4294967296 := by omega
  have n2 : (x2 : Int) < 4294967296 := by omega
  have n3 : (x1 : Int) < 4294967296 := by omega
  have n4 : (y2 : Int) < 4294967296 := by omega
  have n5 : (y1 : Int) < 4294967296 := by omega
  have n6 : (2147483648 : Int) ≤ (y2 : Int) := by omega
  have n7 : ¬ (y2 : Int) = 0 := by omega
  have or1 := i64_or_join x3 x2 i3 i2
  have ed1 : IntKind.u64.wrap ((bits .or .u64 ((x3 : Int) * 4294967296) (x2 : Int)).tdiv (y2 : Int)) = (((x3 * 4294967296 + x2) / y2 : Nat) : Int) := by
    rw [or1]
    have := Nat.div_le_self (x3 * 4294967296 + x2) y2
    rw [← Int.ofNat_tdiv]
    generalize (x3 * 4294967296 + x2) / y2 = d at *
    exact u64w _ (by omega) (by omega)
  have ed2 : (bits .or .u64 ((x3 : Int) * 4294967296) (x2 : Int)).tmod (y2 : Int) = (((x3 * 4294967296 + x2) % y2 : Nat) : Int) := by rw [or1, ← Int.ofNat_tmod]
  have ED := Lib.hid (And.intro ed1 ed2)
  have TS := Lib.hid tS
  clear or1 ed1 ed2 tS
  go_enter Tryz.func123, Tryz.ntmps123
  go_wp2_with fail
  go_quiet (fail)
  go_wp2_with fail
  go_quiet (fail)
  go_wp2_with fail
  go_loopw [7, 8] (fun sg sr wr => TrL (x3 * 4294967296 + x2) y2 Q w sg sr wr) (fun sg _ _ => trM sg)
  case atStart => exact ⟨_, _, _, congrArg (Value.int .u64) ED.out.1, congrArg (Value.int .u64) ED.out.2, ⟨_, _, rfl, rfl, TS.out⟩, World.drewN_drewN _ _ _⟩
  case round =>
    obtain ⟨G, R, n, rfl, rfl, hT, hw⟩ := hrel
    have c1' : wr.cell? ⟨g, off + K, none⟩ = some (.int .u32 (x1 : Int)) := by rw [hw]; exact c1
    have d1' : wr.cell? ⟨b, o + K, none⟩ = some (.int .u32 (y1 : Int)) := by rw [hw]; exact d1
    have d2' : wr.cell? ⟨b, o + k1, none⟩ = some (.int .u32 (y2 : Int)) := by rw [hw]; exact d2
    have HW := Lib.hid hw
    clear hw c1 d1 d2 c2 c3
    have HT := Lib.hid hT
    have hb := hT.bounds
    obtain ⟨g1, g2, g3, g4⟩ := hb
    clear hT
    obtain ⟨z2, hz2⟩ : ∃ z : Int, (y2 : Int) = z := ⟨_, rfl⟩
    rw [hz2] at d2' n4 n6 n7
    have HZ2 := Lib.hid hz2
    clear hz2
    have hs : (4294967296 ≤ G ∧ R + z2 < 4294967296) ∨ (¬ 4294967296 ≤ G ∧ R * 4294967296 + x1 < G * y1 ∧ R + z2 < 4294967296) ∨ (4294967296 ≤ G ∧ 4294967296 ≤ R + z2) ∨ (¬ 4294967296 ≤ G ∧ R * 4294967296 + x1 < G * y1 ∧ 4294967296 ≤ R + z2) ∨ (¬ 4294967296 ≤ G ∧ ¬ R * 4294967296 + x1 < G * y1) := by omega
    have PM : 0 ≤ G * (y1 : Int) ∧ (G < 4294967296 → G * (y1 : Int) ≤ 18446744065119617025) := by
      refine ⟨Int.mul_nonneg g1 (by omega), fun h => ?_⟩
      have := Int.mul_le_mul (a := G) (b := (y1 : Int)) (c := 4294967295) (d := 4294967295) (by omega) (by omega) (by omega) (by omega)
      omega
    obtain ⟨z1, hz1⟩ : ∃ z : Int, (y1 : Int) = z := ⟨_, rfl⟩
    obtain ⟨u1, hu1⟩ : ∃ z : Int, (x1 : Int) = z := ⟨_, rfl⟩
    obtain ⟨P, hP⟩ : ∃ P : Int, G * z1 = P := ⟨_, rfl⟩
    have or2 : bits .or .u64 (R * 4294967296) u1 = R * 4294967296 + u1 := by
      have := i64_or_join R.toNat x1 (by omega) (by omega)
      rw [show ((R.toNat : Nat) : Int) = R by omega] at this
      rw [← hu1, this]; omega
    have EXT := Lib.hid (fun h1 h2 => HT.out.exit EXI.out h1 h2)
    have ROU := Lib.hid (fun h => HT.out.round RND.out h)
    rw [← HZ2.out] at hs
    rcases hs with hs | hs | hs | hs | hs
    · obtain ⟨r1, r2, r3⟩ := ROU.out (.inl hs.1)
      have r2' := r2 hs.2
      rw [HZ2.out] at r2'
      have R2 := Lib.hid r2'
      have hs1 := hs.1
      have hs2 : decide (4294967296 ≤ R + z2) = false := decide_eq_false (by have := hs.2; rw [HZ2.out] at this; omega)
      clear r2 r3 r2' PM or2 hP hs hz1 hu1 EXT ROU
      go_wp2_with fail
      go_region
      all_goals
        go_wp2_with fail
        go_roundw
        case rel => exact TrL.mk R2.out HW.out
        case measure => simp [trM, intOf]; omega
    · obtain ⟨r1, r2, r3⟩ := ROU.out (.inr hs.2.1)
      have r2' := r2 hs.2.2
      rw [HZ2.out] at r2'
      have R2 := Lib.hid r2'
      have hs0 : decide (4294967296 ≤ G) = false := decide_eq_false hs.1
      have hs1 : decide (R * 4294967296 + u1 < P) = true := decide_eq_true (by rw [← hP, ← hz1, ← hu1]; exact hs.2.1)
      have hs2 : decide (4294967296 ≤ R + z2) = false := decide_eq_false (by have := hs.2; rw [HZ2.out] at this; omega)
      rw [hz1] at PM d1'
      rw [hP] at PM
      rw [hu1] at c1'
      have b1 := PM.1
      have b2 := PM.2 (by omega)
      have b3 : 0 ≤ z1 := by omega
      have b4 : z1 < 4294967296 := by omega
      have b5 : 0 ≤ u1 := by omega
      have b6 : u1 < 4294967296 := by omega
      clear r2 r3 r2' PM hs hz1 hu1 EXT ROU
      go_wp2_with fail
      go_region
      all_goals
        go_wp2_with fail
        go_roundw
        case rel => exact TrL.mk R2.out HW.out
        case measure => simp [trM, intOf]; omega
    · obtain ⟨r1, r2, r3⟩ := ROU.out (.inl hs.1)
      have hr3 : 4294967296 ≤ R + (y2 : Int) := hs.2
      obtain ⟨gN, hgN, hE⟩ := r3 hr3
      have HE := Lib.hid hE
      have hs1 := hs.1
      have hs2 : decide (4294967296 ≤ R + z2) = true := decide_eq_true (by have := hs.2; rw [HZ2.out] at this; omega)
      have hgl := hE.2
      clear r2 r3 hr3 PM or2 hP hs hz1 hu1 EXT ROU hE
      go_wp2_with fail
      go_region
      all_goals
        go_wp2_with fail
        go_loopw [9, 10, 11] (fun sc sb si wr2 => SubL l m gN k3 g off w sc sb si wr2) (fun _ _ si _ => k3 + 1 - (intOf si).toNat)
        case atStart => exact ⟨0, 0, 0, l, by omega, rfl, rfl, rfl, SubV.start gN (by rw [HL.out, hk3]) HH.out.ol, by have := HU.out; rw [HW.out]; exact this, by rw [HW.out]; exact wr_drew (World.drewN_drewN _ _ 1)⟩
        case round =>
          obtain ⟨i, C, Bo, X, hi, rfl, rfl, rfl, hS, hU2, hW2⟩ := hrel
          obtain ⟨c1, c2, c3, c4, hXl, hXo⟩ := hS.bounds
          have HS := Lib.hid hS; have HU2 := Lib.hid hU2; have HW2 := Lib.hid hW2; have HXL := Lib.hid hXl; have HXO := Lib.hid hXo
          clear hS hW2 hXo
          have hgI : (gN : Int) < 4294967296 := by omega
          have hgI0 : (0 : Int) ≤ (gN : Int) := by omega
          by_cases hi3 : i < k3
          · have gu := hU2.2 i (by rw [HXL.out]; exact hi3)
            have fz : wr.frozen? ⟨g, off + i, none⟩ = false := hU2.1.frozen _
            have hx := HXO.out.get i
            have hy := HH.out.om.get i
            have st := Lib.hid (fun p q b' v c' h1 h2 h3 h4 h5 h6 h7 => SubL.next (p := p) (q := q) (b' := b') (v := v) (c' := c') HS.out HU2.out HW2.out hi3 HH.out.om hgl h1 h2 h3 h4 h5 h6 h7)
            clear hU2
            have hi3' : (i : Int) < (k3 : Int) := by omega
            obtain ⟨yI, hyI⟩ : ∃ yI : Int, ((m.getD i 0 : Nat) : Int) = yI := ⟨_, rfl⟩
            obtain ⟨xI, hxI⟩ : ∃ xI : Int, ((X.getD i 0 : Nat) : Int) = xI := ⟨_, rfl⟩
            obtain ⟨PI, hPI⟩ : ∃ PI : Int, (gN : Int) * yI = PI := ⟨_, rfl⟩
            have m1 : 0 ≤ PI := by rw [← hPI, ← hyI]; exact Int.mul_nonneg (by omega) (by omega)
            have m2 : PI ≤ 18446744065119617025 := by
              rw [← hPI, ← hyI]
              have := Int.mul_le_mul (a := (gN : Int)) (b := (m.getD i 0 : Int)) (c := 4294967295) (d := 4294967295) (by omega) (by omega) (by omega) (by omega)
              omega
            obtain ⟨q, hq⟩ : ∃ q : Int, (C + PI) % 4294967296 = q := ⟨_, rfl⟩
            have am : bits .and .u64 (C + PI) 4294967295 = q := by
              rw [← hq]; exact mask64 (by omega) (by omega)
            have q1 : 0 ≤ q := by omega
            have q2 : q < 4294967296 := by omega
            have x1' : 0 ≤ xI := by omega
            have x2' : xI < 4294967296 := by omega
            have y1' : 0 ≤ yI := by omega
            have y2' : yI < 4294967296 := by omega
            have eP : C + PI = C + ((gN * m.getD i 0 : Nat) : Int) := by rw [Int.natCast_mul, hyI, hPI]
            have EP := Lib.hid eP; have HQ := Lib.hid hq; have HXI := Lib.hid hxI
            rw [hxI] at gu
            by_cases hik : i < k2
            · have hik' : (i : Int) < (k2 : Int) := by omega
              have t3 : decide (i ≤ k2) = true := decide_eq_true (by omega)
              have t4 : decide (i < k2) = true := decide_eq_true hik
              have gv : wr.cell? ⟨b, o + i, none⟩ = some (.int .u32 yI) := by
                rw [← hyI, HW2.out.cell TYV.out.lt (.inl hbg) (fun e => absurd e hbg)]
                exact FV.out i (by rw [HM.out, hk2]; exact hik)
              clear hx hy hyI hxI eP hq
              by_cases hlt : xI < q + Bo
              · have t1 : decide (xI < q + Bo) = true := decide_eq_true hlt
                have t2 : decide (xI + 4294967296 < q + Bo) = false := decide_eq_false (by omega)
                go_wp2_with fail
                go_roundw
                case rel => exact st.out _ _ _ _ _ EP.out HQ.out (.inr rfl) (by rw [HXI.out]; omega) (by omega) (by omega) rfl
                case measure => simp [intOf]; omega
              · have t1 : decide (xI < q + Bo) = false := decide_eq_false hlt
                go_wp2_with fail
                go_roundw
                case rel => exact st.out _ _ _ _ _ EP.out HQ.out (.inl rfl) (by rw [HXI.out]; omega) (by omega) (by omega) rfl
                case measure => simp [intOf]; omega
            · obtain rfl : i = k2 := by omega
              have t3 : decide (i ≤ i) = true := decide_eq_true (by omega)
              have t4 : decide (i < i) = false := decide_eq_false (by omega)
              have hz : m.getD i 0 = 0 := getD_beyond m i (by rw [HM.out]; omega)
              have hy0 : yI = 0 := by rw [← hyI, hz]; rfl
              have hP0 : PI = 0 := by rw [← hPI, hy0, Int.mul_zero]
              have eC : C = C + ((gN * m.getD i 0 : Nat) : Int) := by rw [hz, Nat.mul_zero]; omega
              have hqC : C % 4294967296 = C := by omega
              have am2 : bits .and .u64 C 4294967295 = C := by rw [mask64 (by omega) (by omega), hqC]
              have EC := Lib.hid eC; have HQC := Lib.hid hqC
              clear hx hy hyI hxI eP hq am hPI hy0 hP0 hz eC hqC m1 m2 q1 q2 EP HQ q
              by_cases hlt : xI < C + Bo
              · have t1 : decide (xI < C + Bo) = true := decide_eq_true hlt
                have t2 : decide (xI + 4294967296 < C + Bo) = false := decide_eq_false (by omega)
                go_wp2_with fail
                go_roundw
                case rel => exact st.out _ _ _ _ _ EC.out HQC.out (.inr rfl) (by rw [HXI.out]; omega) (by omega) (by omega) rfl
                case measure => simp [intOf]; omega
              · have t1 : decide (xI < C + Bo) = false := decide_eq_false hlt
                go_wp2_with fail
                go_roundw
                case rel => exact st.out _ _ _ _ _ EC.out HQC.out (.inl rfl) (by rw [HXI.out]; omega) (by omega) (by omega) rfl
                case measure => simp [intOf]; omega
          · obtain rfl : i = k3 := by omega
            have t3 : decide (i ≤ k2) = false := decide_eq_false (by omega)
            have hVp : 0 < val m := by have := HH.out.hlt; omega
            have hmn : m.length < i := by rw [HM.out]; omega
            rcases HS.out.done (by rw [HL.out, hk3]) HH.out.ol hmn HH.out.om hVp HH.out.hQ HE.out with ⟨rfl, hgq, hval⟩ | ⟨rfl, hgq, hval⟩
            · have HG := Lib.hid hgq; have HVAL := Lib.hid hval
              clear hgq hval hU2 hVp hmn
              go_wp2_with fail
              go_ret
              exact ⟨ret_int (by rw [HG.out, HH.out.hQ]), HW2.out, X, HXL.out, HXO.out, HVAL.out, HU2.out⟩
            · have HG := Lib.hid hgq; have HVAL := Lib.hid hval; have HVP := Lib.hid hVp; have HMN := Lib.hid hmn
              have hg1 : (1 : Int) ≤ (gN : Int) := by omega
              have hgm : (gN : Int) - 1 = ((val l / val m : Nat) : Int) := by rw [← HH.out.hQ]; omega
              have HGM := Lib.hid hgm
              clear hgq hval hVp hmn hgm hU2
              go_wp2_with fail
              go_loopw [15, 16] (fun sc si wr2 => BackL X m i g off w sc si wr2) (fun _ si _ => i + 1 - (intOf si).toNat)
              case atStart => exact ⟨0, 0, X, by omega, rfl, rfl, BackV.start HXL.out HXO.out, HU2.out, HW2.out⟩
              case round =>
                obtain ⟨j, C2, X2, hj, rfl, rfl, hS, hU3, hW3⟩ := hrel
                obtain ⟨c5, c6, hXl2, hXo2⟩ := hS.bounds
                have HS3 := Lib.hid hS; have HU3 := Lib.hid hU3; have HW3 := Lib.hid hW3; have HXL2 := Lib.hid hXl2; have HXO2 := Lib.hid hXo2
                clear hS hW3 hXo2
                by_cases hj3 : j < i
                · have gu := hU3.2 j (by rw [HXL2.out]; exact hj3)
                  have fz : wr.frozen? ⟨g, off + j, none⟩ = false := hU3.1.frozen _
                  have hx := HXO2.out.get j
                  have hy := HH.out.om.get j
                  have st := Lib.hid (fun x h1 => BackL.next (x := x) HS3.out HU3.out HW3.out hj3 HH.out.om h1)
                  clear hU3
                  have hj3' : (j : Int) < (i : Int) := by omega
                  obtain ⟨yI, hyI⟩ : ∃ yI : Int, ((m.getD j 0 : Nat) : Int) = yI := ⟨_, rfl⟩
                  obtain ⟨xI, hxI⟩ : ∃ xI : Int, ((X2.getD j 0 : Nat) : Int) = xI := ⟨_, rfl⟩
                  have x1' : 0 ≤ xI := by omega
                  have x2' : xI < 4294967296 := by omega
                  have y1' : 0 ≤ yI := by omega
                  have y2' : yI < 4294967296 := by omega
                  have HXI := Lib.hid hxI; have HYI := Lib.hid hyI
                  rw [hxI] at gu
                  by_cases hjk : j < k2
                  · have hjk' : (j : Int) < (k2 : Int) := by omega
                    have t3 : decide (j ≤ k2) = true := decide_eq_true (by omega)
                    have t4 : decide (j < k2) = true := decide_eq_true hjk
                    have gv : wr.cell? ⟨b, o + j, none⟩ = some (.int .u32 yI) := by
                      rw [← hyI, HW3.out.cell TYV.out.lt (.inl hbg) (fun e => absurd e hbg)]
                      exact FV.out j (by rw [HM.out, hk2]; exact hjk)
                    clear hx hy hyI hxI
                    go_wp2_with fail
                    go_roundw
                    case rel => exact st.out _ (by rw [HXI.out, HYI.out])
                    case measure => simp [intOf]; omega
                  · obtain rfl : j = k2 := by omega
                    have t3 : decide (j ≤ j) = true := decide_eq_true (by omega)
                    have t4 : decide (j < j) = false := decide_eq_false (by omega)
                    have hz : m.getD j 0 = 0 := getD_beyond m j (by rw [HM.out]; omega)
                    have HZ := Lib.hid hz
                    clear hx hy hyI hxI hz
                    go_wp2_with fail
                    go_roundw
                    case rel => exact st.out _ (by rw [HXI.out, HZ.out]; omega)
                    case measure => simp [intOf]; omega
                · obtain rfl : j = i := by omega
                  have t3 : decide (j ≤ k2) = false := decide_eq_false (by omega)
                  have hval := HS3.out.done (by rw [HL.out, hk3]) HMN.out HH.out.om HVP.out HH.out.hQ HG.out HVAL.out
                  have HV3 := Lib.hid hval
                  clear hval hU3
                  go_wp2_with fail
                  go_ret
                  exact ⟨ret_int (by rw [HGM.out]), HW3.out, X2, HXL2.out, HXO2.out, HV3.out, HU3.out⟩
    · obtain ⟨r1, r2, r3⟩ := ROU.out (.inr hs.2.1)
      have hr3 : 4294967296 ≤ R + (y2 : Int) := hs.2.2
      obtain ⟨gN, hgN, hE⟩ := r3 hr3
      have HE := Lib.hid hE
      have hs0 : decide (4294967296 ≤ G) = false := decide_eq_false hs.1
      have hs1 : decide (R * 4294967296 + u1 < P) = true := decide_eq_true (by rw [← hP, ← hz1, ← hu1]; exact hs.2.1)
      have hs2 : decide (4294967296 ≤ R + z2) = true := decide_eq_true (by have := hs.2; rw [HZ2.out] at this; omega)
      rw [hz1] at PM d1'
      rw [hP] at PM
      rw [hu1] at c1'
      have b1 := PM.1
      have b2 := PM.2 (by omega)
      have b3 : 0 ≤ z1 := by omega
      have b4 : z1 < 4294967296 := by omega
      have b5 : 0 ≤ u1 := by omega
      have b6 : u1 < 4294967296 := by omega
      have hgl := hE.2
      clear r2 r3 hr3 PM hs hz1 hu1 EXT ROU hE
      go_wp2_with fail
      go_region
      all_goals
        go_wp2_with fail
        go_loopw [9, 10, 11] (fun sc sb si wr2 => SubL l m gN k3 g off w sc sb si wr2) (fun _ _ si _ => k3 + 1 - (intOf si).toNat)
        case atStart => exact ⟨0, 0, 0, l, by omega, rfl, rfl, rfl, SubV.start gN (by rw [HL.out, hk3]) HH.out.ol, by have := HU.out; rw [HW.out]; exact this, by rw [HW.out]; exact wr_drew (World.drewN_drewN _ _ 1)⟩
        case round =>
          obtain ⟨i, C, Bo, X, hi, rfl, rfl, rfl, hS, hU2, hW2⟩ := hrel
          obtain ⟨c1, c2, c3, c4, hXl, hXo⟩ := hS.bounds
          have HS := Lib.hid hS; have HU2 := Lib.hid hU2; have HW2 := Lib.hid hW2; have HXL := Lib.hid hXl; have HXO := Lib.hid hXo
          clear hS hW2 hXo
          have hgI : (gN : Int) < 4294967296 := by omega
          have hgI0 : (0 : Int) ≤ (gN : Int) := by omega
          by_cases hi3 : i < k3
          · have gu := hU2.2 i (by rw [HXL.out]; exact hi3)
            have fz : wr.frozen? ⟨g, off + i, none⟩ = false := hU2.1.frozen _
            have hx := HXO.out.get i
            have hy := HH.out.om.get i
            have st := Lib.hid (fun p q b' v c' h1 h2 h3 h4 h5 h6 h7 => SubL.next (p := p) (q := q) (b' := b') (v := v) (c' := c') HS.out HU2.out HW2.out hi3 HH.out.om hgl h1 h2 h3 h4 h5 h6 h7)
            clear hU2
            have hi3' : (i : Int) < (k3 : Int) := by omega
            obtain ⟨yI, hyI⟩ : ∃ yI : Int, ((m.getD i 0 : Nat) : Int) = yI := ⟨_, rfl⟩
            obtain ⟨xI, hxI⟩ : ∃ xI : Int, ((X.getD i 0 : Nat) : Int) = xI := ⟨_, rfl⟩
            obtain ⟨PI, hPI⟩ : ∃ PI : Int, (gN : Int) * yI = PI := ⟨_, rfl⟩
            have m1 : 0 ≤ PI := by rw [← hPI, ← hyI]; exact Int.mul_nonneg (by omega) (by omega)
            have m2 : PI ≤ 18446744065119617025 := by
              rw [← hPI, ← hyI]
              have := Int.mul_le_mul (a := (gN : Int)) (b := (m.getD i 0 : Int)) (c := 4294967295) (d := 4294967295) (by omega) (by omega) (by omega) (by omega)
              omega
            obtain ⟨q, hq⟩ : ∃ q : Int, (C + PI) % 4294967296 = q := ⟨_, rfl⟩
            have am : bits .and .u64 (C + PI) 4294967295 = q := by
              rw [← hq]; exact mask64 (by omega) (by omega)
            have q1 : 0 ≤ q := by omega
            have q2 : q < 4294967296 := by omega
            have x1' : 0 ≤ xI := by omega
            have x2' : xI < 4294967296 := by omega
            have y1' : 0 ≤ yI := by omega
            have y2' : yI < 4294967296 := by omega
            have eP : C + PI = C + ((gN * m.getD i 0 : Nat) : Int) := by rw [Int.natCast_mul, hyI, hPI]
            have EP := Lib.hid eP; have HQ := Lib.hid hq; have HXI := Lib.hid hxI
            rw [hxI] at gu
            by_cases hik : i < k2
            · have hik' : (i : Int) < (k2 : Int) := by omega
              have t3 : decide (i ≤ k2) = true := decide_eq_true (by omega)
              have t4 : decide (i < k2) = true := decide_eq_true hik
              have gv : wr.cell? ⟨b, o + i, none⟩ = some (.int .u32 yI) := by
                rw [← hyI, HW2.out.cell TYV.out.lt (.inl hbg) (fun e => absurd e hbg)]
                exact FV.out i (by rw [HM.out, hk2]; exact hik)
              clear hx hy hyI hxI eP hq
              by_cases hlt : xI < q + Bo
              · have t1 : decide (xI < q + Bo) = true := decide_eq_true hlt
                have t2 : decide (xI + 4294967296 < q + Bo) = false := decide_eq_false (by omega)
                go_wp2_with fail
                go_roundw
                case rel => exact st.out _ _ _ _ _ EP.out HQ.out (.inr rfl) (by rw [HXI.out]; omega) (by omega) (by omega) rfl
                case measure => simp [intOf]; omega
              · have t1 : decide (xI < q + Bo) = false := decide_eq_false hlt
                go_wp2_with fail
                go_roundw
                case rel => exact st.out _ _ _ _ _ EP.out HQ.out (.inl rfl) (by rw [HXI.out]; omega) (by omega) (by omega) rfl
                case measure => simp [intOf]; omega
            · obtain rfl : i = k2 := by omega
              have t3 : decide (i ≤ i) = true := decide_eq_true (by omega)
              have t4 : decide (i < i) = false := decide_eq_false (by omega)
              have hz : m.getD i 0 = 0 := getD_beyond m i (by rw [HM.out]; omega)
              have hy0 : yI = 0 := by rw [← hyI, hz]; rfl
              have hP0 : PI = 0 := by rw [← hPI, hy0, Int.mul_zero]
              have eC : C = C + ((gN * m.getD i 0 : Nat) : Int) := by rw [hz, Nat.mul_zero]; omega
              have hqC : C % 4294967296 = C := by omega
              have am2 : bits .and .u64 C 4294967295 = C := by rw [mask64 (by omega) (by omega), hqC]
              have EC := Lib.hid eC; have HQC := Lib.hid hqC
              clear hx hy hyI hxI eP hq am hPI hy0 hP0 hz eC hqC m1 m2 q1 q2 EP HQ q
              by_cases hlt : xI < C + Bo
              · have t1 : decide (xI < C + Bo) = true := decide_eq_true hlt
                have t2 : decide (xI + 4294967296 < C + Bo) = false := decide_eq_false (by omega)
                go_wp2_with fail
                go_roundw
                case rel => exact st.out _ _ _ _ _ EC.out HQC.out (.inr rfl) (by rw [HXI.out]; omega) (by omega) (by omega) rfl
                case measure => simp [intOf]; omega
              · have t1 : decide (xI < C + Bo) = false := decide_eq_false hlt
                go_wp2_with fail
                go_roundw
                case rel => exact st.out _ _ _ _ _ EC.out HQC.out (.inl rfl) (by rw [HXI.out]; omega) (by omega) (by omega) rfl
                case measure => simp [intOf]; omega
          · obtain rfl : i = k3 := by omega
            have t3 : decide (i ≤ k2) = false := decide_eq_false (by omega)
            have hVp : 0 < val m := by have := HH.out.hlt; omega
            have hmn : m.length < i := by rw [HM.out]; omega
            rcases HS.out.done (by rw [HL.out, hk3]) HH.out.ol hmn HH.out.om hVp HH.out.hQ HE.out with ⟨rfl, hgq, hval⟩ | ⟨rfl, hgq, hval⟩
            · have HG := Lib.hid hgq; have HVAL := Lib.hid hval
              clear hgq hval hU2 hVp hmn
              go_wp2_with fail
              go_ret
              exact ⟨ret_int (by rw [HG.out, HH.out.hQ]), HW2.out, X, HXL.out, HXO.out, HVAL.out, HU2.out⟩
            · have HG := Lib.hid hgq; have HVAL := Lib.hid hval; have HVP := Lib.hid hVp; have HMN := Lib.hid hmn
              have hg1 : (1 : Int) ≤ (gN : Int) := by omega
              have hgm : (gN : Int) - 1 = ((val l / val m : Nat) : Int) := by rw [← HH.out.hQ]; omega
              have HGM := Lib.hid hgm
              clear hgq hval hVp hmn hgm hU2
              go_wp2_with fail
              go_loopw [15, 16] (fun sc si wr2 => BackL X m i g off w sc si wr2) (fun _ si _ => i + 1 - (intOf si).toNat)
              case atStart => exact ⟨0, 0, X, by omega, rfl, rfl, BackV.start HXL.out HXO.out, HU2.out, HW2.out⟩
              case round =>
                obtain ⟨j, C2, X2, hj, rfl, rfl, hS, hU3, hW3⟩ := hrel
                obtain ⟨c5, c6, hXl2, hXo2⟩ := hS.bounds
                have HS3 := Lib.hid hS; have HU3 := Lib.hid hU3; have HW3 := Lib.hid hW3; have HXL2 := Lib.hid hXl2; have HXO2 := Lib.hid hXo2
                clear hS hW3 hXo2
                by_cases hj3 : j < i
                · have gu := hU3.2 j (by rw [HXL2.out]; exact hj3)
                  have fz : wr.frozen? ⟨g, off + j, none⟩ = false := hU3.1.frozen _
                  have hx := HXO2.out.get j
                  have hy := HH.out.om.get j
                  have st := Lib.hid (fun x h1 => BackL.next (x := x) HS3.out HU3.out HW3.out hj3 HH.out.om h1)
                  clear hU3
                  have hj3' : (j : Int) < (i : Int) := by omega
                  obtain ⟨yI, hyI⟩ : ∃ yI : Int, ((m.getD j 0 : Nat) : Int) = yI := ⟨_, rfl⟩
                  obtain ⟨xI, hxI⟩ : ∃ xI : Int, ((X2.getD j 0 : Nat) : Int) = xI := ⟨_, rfl⟩
                  have x1' : 0 ≤ xI := by omega
                  have x2' : xI < 4294967296 := by omega
                  have y1' : 0 ≤ yI := by omega
                  have y2' : yI < 4294967296 := by omega
                  have HXI := Lib.hid hxI; have HYI := Lib.hid hyI
                  rw [hxI] at gu
                  by_cases hjk : j < k2
                  · have hjk' : (j : Int) < (k2 : Int) := by omega
                    have t3 : decide (j ≤ k2) = true := decide_eq_true (by omega)
                    have t4 : decide (j < k2) = true := decide_eq_true hjk
                    have gv : wr.cell? ⟨b, o + j, none⟩ = some (.int .u32 yI) := by
                      rw [← hyI, HW3.out.cell TYV.out.lt (.inl hbg) (fun e => absurd e hbg)]
                      exact FV.out j (by rw [HM.out, hk2]; exact hjk)
                    clear hx hy hyI hxI
                    go_wp2_with fail
                    go_roundw
                    case rel => exact st.out _ (by rw [HXI.out, HYI.out])
                    case measure => simp [intOf]; omega
                  · obtain rfl : j = k2 := by omega
                    have t3 : decide (j ≤ j) = true := decide_eq_true (by omega)
                    have t4 : decide (j < j) = false := decide_eq_false (by omega)
                    have hz : m.getD j 0 = 0 := getD_beyond m j (by rw [HM.out]; omega)
                    have HZ := Lib.hid hz
                    clear hx hy hyI hxI hz
                    go_wp2_with fail
                    go_roundw
                    case rel => exact st.out _ (by rw [HXI.out, HZ.out]; omega)
                    case measure => simp [intOf]; omega
                · obtain rfl : j = i := by omega
                  have t3 : decide (j ≤ k2) = false := decide_eq_false (by omega)
                  have hval := HS3.out.done (by rw [HL.out, hk3]) HMN.out HH.out.om HVP.out HH.out.hQ HG.out HVAL.out
                  have HV3 := Lib.hid hval
                  clear hval hU3
                  go_wp2_with fail
                  go_ret
                  exact ⟨ret_int (by rw [HGM.out]), HW3.out, X2, HXL2.out, HXO2.out, HV3.out, HU3.out⟩
    · obtain ⟨gN, hgN, hE⟩ := EXT.out (by omega) hs.2
      have HE := Lib.hid hE
      have hs0 : decide (4294967296 ≤ G) = false := decide_eq_false hs.1
      have hs1 : decide (R * 4294967296 + u1 < P) = false := decide_eq_false (by rw [← hP, ← hz1, ← hu1]; exact hs.2)
      rw [hz1] at PM d1'
      rw [hP] at PM
      rw [hu1] at c1'
      have b1 := PM.1
      have b2 := PM.2 (by omega)
      have b3 : 0 ≤ z1 := by omega
      have b4 : z1 < 4294967296 := by omega
      have b5 : 0 ≤ u1 := by omega
      have b6 : u1 < 4294967296 := by omega
      have hgl := hE.2
      clear PM hs hz1 hu1 EXT ROU hE
      subst hgN
      go_wp2_with fail
      go_region
      all_goals
        go_wp2_with fail
        go_loopw [9, 10, 11] (fun sc sb si wr2 => SubL l m gN k3 g off w sc sb si wr2) (fun _ _ si _ => k3 + 1 - (intOf si).toNat)
        case atStart => exact ⟨0, 0, 0, l, by omega, rfl, rfl, rfl, SubV.start gN (by rw [HL.out, hk3]) HH.out.ol, by have := HU.out; rw [HW.out]; exact this, by rw [HW.out]; exact wr_drew (World.drewN_drewN _ _ 1)⟩
        case round =>
          obtain ⟨i, C, Bo, X, hi, rfl, rfl, rfl, hS, hU2, hW2⟩ := hrel
          obtain ⟨c1, c2, c3, c4, hXl, hXo⟩ := hS.bounds
          have HS := Lib.hid hS; have HU2 := Lib.hid hU2; have HW2 := Lib.hid hW2; have HXL := Lib.hid hXl; have HXO := Lib.hid hXo
          clear hS hW2 hXo
          have hgI : (gN : Int) < 4294967296 := by omega
          have hgI0 : (0 : Int) ≤ (gN : Int) := by omega
          by_cases hi3 : i < k3
          · have gu := hU2.2 i (by rw [HXL.out]; exact hi3)
            have fz : wr.frozen? ⟨g, off + i, none⟩ = false := hU2.1.frozen _
            have hx := HXO.out.get i
            have hy := HH.out.om.get i
            have st := Lib.hid (fun p q b' v c' h1 h2 h3 h4 h5 h6 h7 => SubL.next (p := p) (q := q) (b' := b') (v := v) (c' := c') HS.out HU2.out HW2.out hi3 HH.out.om hgl h1 h2 h3 h4 h5 h6 h7)
            clear hU2
            have hi3' : (i : Int) < (k3 : Int) := by omega
            obtain ⟨yI, hyI⟩ : ∃ yI : Int, ((m.getD i 0 : Nat) : Int) = yI := ⟨_, rfl⟩
            obtain ⟨xI, hxI⟩ : ∃ xI : Int, ((X.getD i 0 : Nat) : Int) = xI := ⟨_, rfl⟩
            obtain ⟨PI, hPI⟩ : ∃ PI : Int, (gN : Int) * yI = PI := ⟨_, rfl⟩
            have m1 : 0 ≤ PI := by rw [← hPI, ← hyI]; exact Int.mul_nonneg (by omega) (by omega)
            have m2 : PI ≤ 18446744065119617025 := by
              rw [← hPI, ← hyI]
              have := Int.mul_le_mul (a := (gN : Int)) (b := (m.getD i 0 : Int)) (c := 4294967295) (d := 4294967295) (by omega) (by omega) (by omega) (by omega)
              omega
            obtain ⟨q, hq⟩ : ∃ q : Int, (C + PI) % 4294967296 = q := ⟨_, rfl⟩
            have am : bits .and .u64 (C + PI) 4294967295 = q := by
              rw [← hq]; exact mask64 (by omega) (by omega)
            have q1 : 0 ≤ q := by omega
            have q2 : q < 4294967296 := by omega
            have x1' : 0 ≤ xI := by omega
            have x2' : xI < 4294967296 := by omega
            have y1' : 0 ≤ yI := by omega
            have y2' : yI < 4294967296 := by omega
            have eP : C + PI = C + ((gN * m.getD i 0 : Nat) : Int) := by rw [Int.natCast_mul, hyI, hPI]
            have EP := Lib.hid eP; have HQ := Lib.hid hq; have HXI := Lib.hid hxI
            rw [hxI] at gu
            by_cases hik : i < k2
            · have hik' : (i : Int) < (k2 : Int) := by omega
              have t3 : decide (i ≤ k2) = true := decide_eq_true (by omega)
              have t4 : decide (i < k2) = true := decide_eq_true hik
              have gv : wr.cell? ⟨b, o + i, none⟩ = some (.int .u32 yI) := by
                rw [← hyI, HW2.out.cell TYV.out.lt (.inl hbg) (fun e => absurd e hbg)]
                exact FV.out i (by rw [HM.out, hk2]; exact hik)
              clear hx hy hyI hxI eP hq
              by_cases hlt : xI < q + Bo
              · have t1 : decide (xI < q + Bo) = true := decide_eq_true hlt
                have t2 : decide (xI + 4294967296 < q + Bo) = false := decide_eq_false (by omega)
                go_wp2_with fail
                go_roundw
                case rel => exact st.out _ _ _ _ _ EP.out HQ.out (.inr rfl) (by rw [HXI.out]; omega) (by omega) (by omega) rfl
                case measure => simp [intOf]; omega
              · have t1 : decide (xI < q + Bo) = false := decide_eq_false hlt
                go_wp2_with fail
                go_roundw
                case rel => exact st.out _ _ _ _ _ EP.out HQ.out (.inl rfl) (by rw [HXI.out]; omega) (by omega) (by omega) rfl
                case measure => simp [intOf]; omega
            · obtain rfl : i = k2 := by omega
              have t3 : decide (i ≤ i) = true := decide_eq_true (by omega)
              have t4 : decide (i < i) = false := decide_eq_false (by omega)
              have hz : m.getD i 0 = 0 := getD_beyond m i (by rw [HM.out]; omega)
              have hy0 : yI = 0 := by rw [← hyI, hz]; rfl
              have hP0 : PI = 0 := by rw [← hPI, hy0, Int.mul_zero]
              have eC : C = C + ((gN * m.getD i 0 : Nat) : Int) := by rw [hz, Nat.mul_zero]; omega
              have hqC : C % 4294967296 = C := by omega
              have am2 : bits .and .u64 C 4294967295 = C := by rw [mask64 (by omega) (by omega), hqC]
              have EC := Lib.hid eC; have HQC := Lib.hid hqC
              clear hx hy hyI hxI eP hq am hPI hy0 hP0 hz eC hqC m1 m2 q1 q2 EP HQ q
              by_cases hlt : xI < C + Bo
              · have t1 : decide (xI < C + Bo) = true := decide_eq_true hlt
                have t2 : decide (xI + 4294967296 < C + Bo) = false := decide_eq_false (by omega)
                go_wp2_with fail
                go_roundw
                case rel => exact st.out _ _ _ _ _ EC.out HQC.out (.inr rfl) (by rw [HXI.out]; omega) (by omega) (by omega) rfl
                case measure => simp [intOf]; omega
              · have t1 : decide (xI < C + Bo) = false := decide_eq_false hlt
                go_wp2_with fail
                go_roundw
                case rel => exact st.out _ _ _ _ _ EC.out HQC.out (.inl rfl) (by rw [HXI.out]; omega) (by omega) (by omega) rfl
                case measure => simp [intOf]; omega
          · obtain rfl : i = k3 := by omega
            have t3 : decide (i ≤ k2) = false := decide_eq_false (by omega)
            have hVp : 0 < val m := by have := HH.out.hlt; omega
            have hmn : m.length < i := by rw [HM.out]; omega
            rcases HS.out.done (by rw [HL.out, hk3]) HH.out.ol hmn HH.out.om hVp HH.out.hQ HE.out with ⟨rfl, hgq, hval⟩ | ⟨rfl, hgq, hval⟩
            · have HG := Lib.hid hgq; have HVAL := Lib.hid hval
              clear hgq hval hU2 hVp hmn
              go_wp2_with fail
              go_ret
              exact ⟨ret_int (by rw [HG.out, HH.out.hQ]), HW2.out, X, HXL.out, HXO.out, HVAL.out, HU2.out⟩
            · have HG := Lib.hid hgq; have HVAL := Lib.hid hval; have HVP := Lib.hid hVp; have HMN := Lib.hid hmn
              have hg1 : (1 : Int) ≤ (gN : Int) := by omega
              have hgm : (gN : Int) - 1 = ((val l / val m : Nat) : Int) := by rw [← HH.out.hQ]; omega
              have HGM := Lib.hid hgm
              clear hgq hval hVp hmn hgm hU2
              go_wp2_with fail
              go_loopw [15, 16] (fun sc si wr2 => BackL X m i g off w sc si wr2) (fun _ si _ => i + 1 - (intOf si).toNat)
              case atStart => exact ⟨0, 0, X, by omega, rfl, rfl, BackV.start HXL.out HXO.out, HU2.out, HW2.out⟩
              case round =>
                obtain ⟨j, C2, X2, hj, rfl, rfl, hS, hU3, hW3⟩ := hrel
                obtain ⟨c5, c6, hXl2, hXo2⟩ := hS.bounds
                have HS3 := Lib.hid hS; have HU3 := Lib.hid hU3; have HW3 := Lib.hid hW3; have HXL2 := Lib.hid hXl2; have HXO2 := Lib.hid hXo2
                clear hS hW3 hXo2
                by_cases hj3 : j < i
                · have gu := hU3.2 j (by rw [HXL2.out]; exact hj3)
                  have fz : wr.frozen? ⟨g, off + j, none⟩ = false := hU3.1.frozen _
                  have hx := HXO2.out.get j
                  have hy := HH.out.om.get j
                  have st := Lib.hid (fun x h1 => BackL.next (x := x) HS3.out HU3.out HW3.out hj3 HH.out.om h1)
                  clear hU3
                  have hj3' : (j : Int) < (i : Int) := by omega
                  obtain ⟨yI, hyI⟩ : ∃ yI : Int, ((m.getD j 0 : Nat) : Int) = yI := ⟨_, rfl⟩
                  obtain ⟨xI, hxI⟩ : ∃ xI : Int, ((X2.getD j 0 : Nat) : Int) = xI := ⟨_, rfl⟩
                  have x1' : 0 ≤ xI := by omega
                  have x2' : xI < 4294967296 := by omega
                  have y1' : 0 ≤ yI := by omega
                  have y2' : yI < 4294967296 := by omega
                  have HXI := Lib.hid hxI; have HYI := Lib.hid hyI
                  rw [hxI] at gu
                  by_cases hjk : j < k2
                  · have hjk' : (j : Int) < (k2 : Int) := by omega
                    have t3 : decide (j ≤ k2) = true := decide_eq_true (by omega)
                    have t4 : decide (j < k2) = true := decide_eq_true hjk
                    have gv : wr.cell? ⟨b, o + j, none⟩ = some (.int .u32 yI) := by
                      rw [← hyI, HW3.out.cell TYV.out.lt (.inl hbg) (fun e => absurd e hbg)]
                      exact FV.out j (by rw [HM.out, hk2]; exact hjk)
                    clear hx hy hyI hxI
                    go_wp2_with fail
                    go_roundw
                    case rel => exact st.out _ (by rw [HXI.out, HYI.out])
                    case measure => simp [intOf]; omega
                  · obtain rfl : j = k2 := by omega
                    have t3 : decide (j ≤ j) = true := decide_eq_true (by omega)
                    have t4 : decide (j < j) = false := decide_eq_false (by omega)
                    have hz : m.getD j 0 = 0 := getD_beyond m j (by rw [HM.out]; omega)
                    have HZ := Lib.hid hz
                    clear hx hy hyI hxI hz
                    go_wp2_with fail
                    go_roundw
                    case rel => exact st.out _ (by rw [HXI.out, HZ.out]; omega)
                    case measure => simp [intOf]; omega
                · obtain rfl : j = i := by omega
                  have t3 : decide (j ≤ k2) = false := decide_eq_false (by omega)
                  have hval := HS3.out.done (by rw [HL.out, hk3]) HMN.out HH.out.om HVP.out HH.out.hQ HG.out HVAL.out
                  have HV3 := Lib.hid hval
                  clear hval hU3
                  go_wp2_with fail
                  go_ret
                  exact ⟨ret_int (by rw [HGM.out]), HW3.out, X2, HXL2.out, HXO2.out, HV3.out, HU3.out⟩
end Go.Proofs.YtokmommlabdcdaaGreatDoor
