/- Words times a number and more, in their own place; digits read in pieces. No program in sight. -/
import Derived.Test.YtokmommlabdcdaaGreatDoorVFl
import Derived.Test.YtokmommlabdcdaaGreatDoorVFlDec
set_option linter.unusedVariables false
set_option linter.unusedSimpArgs false
set_option linter.unusedVariables false
set_option linter.unusedSimpArgs false
namespace Wd
/-- below i the words are new, c is carried -/
structure GrV (l : List Nat) (by_ add n i : Nat) (c : Int) (X : List Nat) : Prop where
  len : X.length = n
  ok : Ok X
  c0 : 0 ≤ c
  c1 : c < 4294967296
  old : ∀ j, i ≤ j → X.getD j 0 = l.getD j 0
  eqn : (val (X.take i) : Int) + (4294967296 ^ i : Nat) * c = (Wd.val (l.take i) * by_ + add : Nat)
theorem GrV.start {l : List Nat} {by_ add n : Nat} (h : l.length = n) (ok : Ok l) (ha : add < 4294967296) : GrV l by_ add n 0 (add : Int) l :=
  ⟨h, ok, by omega, by omega, fun _ _ => rfl, by simp [Wd.val]⟩
theorem take_succ_val {X : List Nat} {i : Nat} (h : i < X.length) : val (X.take (i + 1)) = val (X.take i) + 4294967296 ^ i * X.getD i 0 := by
  rw [List.take_add_one, val_append, List.length_take, Nat.min_eq_left (by omega)]
  rw [List.getElem?_eq_getElem h, List.getD_eq_getElem?_getD, List.getElem?_eq_getElem h]
  simp [Wd.val]
theorem GrV.step {l X : List Nat} {by_ add n i : Nat} {c : Int} (h : GrV l by_ add n i c X) (hi : i < n) (hn : l.length = n) (ol : Ok l) (hby : by_ < 4294967296) {t : Int} (ht : t = (l.getD i 0 : Nat) * (by_ : Int) + c) :
    0 ≤ t ∧ t < 18446744073709551616 ∧ GrV l by_ add n (i + 1) (t / 4294967296) (X.set i (t % 4294967296).toNat) := by
  obtain ⟨h1, h2, h3, h4, h5, h6⟩ := h
  have hy := ol.get i
  obtain ⟨y, hyy⟩ : ∃ y, l.getD i 0 = y := ⟨_, rfl⟩
  rw [hyy] at ht hy
  have hp : y * by_ ≤ 4294967295 * 4294967295 := Nat.mul_le_mul (by omega) (by omega)
  have hpe : (y : Int) * (by_ : Int) = ((y * by_ : Nat) : Int) := by simp
  rw [hpe] at ht
  have t0 : 0 ≤ t := by omega
  have t1 : t < 18446744073709551616 := by omega
  refine ⟨t0, t1, by simp [h1], ?_, by omega, by omega, ?_, ?_⟩
  · intro x hx
    rcases List.mem_or_eq_of_mem_set hx with hx | rfl
    · exact h2 x hx
    · omega
  · intro j hj
    rw [List.getD_eq_getElem?_getD, List.getElem?_set_ne (by omega), ← List.getD_eq_getElem?_getD]
    exact h5 j (by omega)
  · have e1 : (X.set i (t % 4294967296).toNat).take i = X.take i := by rw [List.take_set_of_le (Nat.le_refl _)]
    rw [take_succ_val (by simp; omega), take_succ_val (by omega), e1, hyy, List.getD_eq_getElem?_getD, List.getElem?_set_self (by omega)]
    simp only [Option.getD_some]
    have ed := Int.emod_add_mul_ediv t 4294967296
    obtain ⟨r, hr⟩ : ∃ r : Nat, t % 4294967296 = r := ⟨(t % 4294967296).toNat, by omega⟩
    rw [hr] at ed
    rw [hr, Int.toNat_natCast]
    obtain ⟨q, hq⟩ : ∃ q : Int, t / 4294967296 = q := ⟨_, rfl⟩
    rw [hq] at ed ⊢
    have ep : ((4294967296 ^ (i + 1) : Nat) : Int) = 4294967296 * (4294967296 ^ i : Nat) := by rw [pw_succ]; simp
    generalize hP : 4294967296 ^ i = P at *
    rw [ep]
    have a : ((Wd.val (X.take i) + P * r : Nat) : Int) + 4294967296 * (P : Int) * q = (Wd.val (X.take i) : Int) + P * (r + 4294967296 * q) := by
      push_cast
      rw [Int.mul_add, Int.mul_left_comm (P : Int) 4294967296 q, Int.mul_assoc]; omega
    rw [a, ed, ht]
    have b : (((Wd.val (l.take i) + P * y) * by_ + add : Nat) : Int) = ((Wd.val (l.take i) * by_ + add : Nat) : Int) + P * (y * by_ : Nat) := by
      rw [Nat.add_mul]; push_cast; rw [Int.mul_assoc]; omega
    rw [b, ← h6, Int.mul_add]
    omega
theorem GrV.done {l X : List Nat} {by_ add n : Nat} {c : Int} (h : GrV l by_ add n n c X) (hn : l.length = n) (nm : Nm l) (hby : 0 < by_) :
    (c = 0 → val X = val l * by_ + add ∧ Nm X) ∧ (0 < c → val (X ++ [c.toNat]) = val l * by_ + add ∧ Ok (X ++ [c.toNat]) ∧ Nm (X ++ [c.toNat])) := by
  obtain ⟨h1, h2, h3, h4, h5, h6⟩ := h
  have e1 : X.take n = X := List.take_of_length_le (by omega)
  have e2 : l.take n = l := List.take_of_length_le (by omega)
  rw [e1, e2] at h6
  refine ⟨fun hc => ?_, fun hc => ?_⟩
  · subst hc
    have hv : val X = val l * by_ + add := by omega
    refine ⟨hv, ?_⟩
    by_cases h0 : X = []
    · subst h0; exact (by unfold Nm; simp)
    · have hne : l ≠ [] := by intro e; subst e; apply h0; exact List.eq_nil_of_length_eq_zero (by simpa using h1.trans hn.symm)
      have hpos := nm.pos hne
      have hlow : 4294967296 ^ (n - 1) ≤ val X := by
        have := nm.le hne
        rw [hn] at this
        refine Nat.le_trans this ?_
        rw [hv]
        have := Nat.le_mul_of_pos_right (val l) hby
        omega
      intro hl
      obtain ⟨ys, hys⟩ := List.getLast?_eq_some_iff.1 hl
      have hys1 : ys.length = n - 1 := by have := congrArg List.length hys; simp at this; omega
      have hv2 : val X = val ys := by rw [hys, val_snoc]; simp
      have := val_lt (l := ys) (by rw [hys] at h2; exact h2.left)
      rw [hys1] at this
      omega
  · obtain ⟨k, rfl⟩ : ∃ k : Nat, c = k := ⟨c.toNat, by omega⟩
    rw [Int.toNat_natCast]
    refine ⟨?_, h2.snoc (by omega), ?_⟩
    · rw [val_snoc, h1]
      have : ((val X + 4294967296 ^ n * k : Nat) : Int) = ((val l * by_ + add : Nat) : Int) := by rw [Int.natCast_add, Int.natCast_mul]; exact h6
      exact Int.ofNat.inj this
    · unfold Nm
      rw [List.getLast?_append]
      simp; omega
/-- the number that digits make, the first ahead -/
def pv (l : List UInt8) : Nat := l.foldl (fun a c => a * 10 + (c.toNat - 48)) 0
theorem pv_snoc (l : List UInt8) (c : UInt8) : pv (l ++ [c]) = pv l * 10 + (c.toNat - 48) := by simp [pv]
theorem pv_take {l : List UInt8} {i : Nat} (h : i < l.length) : pv (l.take (i + 1)) = pv (l.take i) * 10 + ((l.getD i 0).toNat - 48) := by
  rw [List.take_add_one, List.getElem?_eq_getElem h, List.getD_eq_getElem?_getD, List.getElem?_eq_getElem h]
  exact pv_snoc _ _
def Digs (l : List UInt8) : Prop := ∀ c ∈ l, 48 ≤ c.toNat ∧ c.toNat ≤ 57
theorem Digs.get {l : List UInt8} (h : Digs l) {i : Nat} (hi : i < l.length) : 48 ≤ (l.getD i 0).toNat ∧ (l.getD i 0).toNat ≤ 57 := by
  rw [List.getD_eq_getElem?_getD, List.getElem?_eq_getElem hi]; exact h _ (List.getElem_mem hi)
/-- of the digits i are read: the words hold all but the last ones, which row holds; by is what these are to be weighed with -/
structure SsV (l : List UInt8) (i : Nat) (W : List Nat) (row by_ : Int) : Prop where
  r0 : 0 ≤ row
  r1 : row < by_
  b1 : by_ < 10000000
  eqn : (pv (l.take i) : Int) = (val W : Int) * by_ + row
  ok : Ok W
  nm : Nm W
  len : W.length ≤ i
  last : i = l.length → 0 < i → by_ = 1
theorem SsV.start (l : List UInt8) : SsV l 0 [] 0 1 := ⟨by omega, by omega, by omega, by simp [pv, val], .nil, .nil, by simp, fun _ h => by omega⟩
theorem SsV.on {l : List UInt8} {i : Nat} {W : List Nat} {row by_ d : Int} (h : SsV l i W row by_) (dg : Digs l) (hi : i < l.length) (hd : d = (((l.getD i 0).toNat : Nat) : Int) - 48) :
    0 ≤ d ∧ d ≤ 9 ∧ 0 ≤ row * 10 + d ∧ row * 10 + d < by_ * 10 ∧ by_ * 10 < 100000000 ∧ 10 ≤ by_ * 10 := by
  have := dg.get hi
  obtain ⟨h1, h2, h3, _⟩ := h
  omega
theorem SsV.keep {l : List UInt8} {i : Nat} {W : List Nat} {row by_ d : Int} (h : SsV l i W row by_) (dg : Digs l) (hi : i < l.length) (hd : d = (((l.getD i 0).toNat : Nat) : Int) - 48) (hb : by_ * 10 < 10000000) (hl : i ≠ l.length - 1) :
    SsV l (i + 1) W (row * 10 + d) (by_ * 10) := by
  obtain ⟨a1, a2, a3, a4, a5, a6⟩ := h.on dg hi hd
  have := dg.get hi
  obtain ⟨h1, h2, h3, h4, h5, h6, h7, h8⟩ := h
  refine ⟨a3, a4, hb, ?_, h5, h6, by omega, fun e => by omega⟩
  rw [pv_take hi, Int.natCast_add, Int.natCast_mul, h4, show ((10 : Nat) : Int) = 10 from rfl, Int.add_mul, Int.mul_assoc]
  omega
theorem SsV.flush {l : List UInt8} {i : Nat} {W X : List Nat} {row by_ d : Int} (h : SsV l i W row by_) (dg : Digs l) (hi : i < l.length) (hd : d = (((l.getD i 0).toNat : Nat) : Int) - 48) (hv : (val X : Int) = (val W : Int) * (by_ * 10) + (row * 10 + d)) (ok : Ok X) (nm : Nm X) (hl : X.length ≤ W.length + 1) :
    SsV l (i + 1) X 0 1 := by
  have := dg.get hi
  obtain ⟨h1, h2, h3, h4, h5, h6, h7, h8⟩ := h
  refine ⟨by omega, by omega, by omega, ?_, ok, nm, by omega, fun _ _ => rfl⟩
  rw [pv_take hi, Int.natCast_add, Int.natCast_mul, h4, hv, show ((10 : Nat) : Int) = 10 from rfl, Int.add_mul, Int.mul_assoc]
  omega
theorem SsV.done {l : List UInt8} {W : List Nat} {row by_ : Int} (h : SsV l l.length W row by_) (h0 : 0 < l.length) : val W = pv l := by
  obtain ⟨h1, h2, h3, h4, h5, h6, h7, h8⟩ := h
  have := h8 rfl h0
  subst this
  rw [List.take_length] at h4
  omega
/-- the numeral read again -/
theorem pv_dec (n : Nat) : pv (Go.Lib.decDigits n) = n := by
  induction n using Nat.strongRecOn with
  | _ n ih =>
    rw [Go.Lib.decDigits]
    by_cases c : n < 10
    · rw [dif_pos c]
      have : (UInt8.ofNat (48 + n)).toNat = 48 + n := by rw [UInt8.toNat_ofNat']; omega
      unfold pv
      rw [List.foldl_cons, List.foldl_nil, this]; omega
    · rw [dif_neg c, pv_snoc, ih (n / 10) (by omega)]
      have : (UInt8.ofNat (48 + n % 10)).toNat = 48 + n % 10 := by rw [UInt8.toNat_ofNat']; omega
      rw [this]; omega
theorem digs_dec (n : Nat) : Digs (Go.Lib.decDigits n) := by
  induction n using Nat.strongRecOn with
  | _ n ih =>
    rw [Go.Lib.decDigits]
    by_cases c : n < 10
    · rw [dif_pos c]
      have : (UInt8.ofNat (48 + n)).toNat = 48 + n := by rw [UInt8.toNat_ofNat']; omega
      intro x hx
      rw [List.mem_singleton.1 hx]; omega
    · rw [dif_neg c]
      have : (UInt8.ofNat (48 + n % 10)).toNat = 48 + n % 10 := by rw [UInt8.toNat_ofNat']; omega
      intro x hx
      rcases List.mem_append.1 hx with hx | hx
      · exact ih (n / 10) (by omega) x hx
      · rw [List.mem_singleton.1 hx]; omega
end Wd
