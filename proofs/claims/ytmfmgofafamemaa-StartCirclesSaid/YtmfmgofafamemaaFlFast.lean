/- The operations on finite floats, written so that the kernel reckons them quickly. -/
import Derived.Test.YtmfmgofafamemaaFlLd
namespace Fl
open Go Ieee
/-- a power of two, behind a name -/
def pw2 (k : Nat) : Nat := 2 ^ k
theorem pw2_pos (k : Nat) : 0 < pw2 k := Nat.two_pow_pos k
def force {α : Type} (n : Nat) (f : Nat → α) : α := Nat.rec (f 0) (fun k _ => f (Nat.succ k)) n
theorem force_eq {α : Type} (n : Nat) (f : Nat → α) : force n f = f n := by cases n <;> rfl
theorem bltT {a b : Nat} (h : a < b) : Nat.blt a b = true := by rw [Nat.blt_eq]; exact h
theorem bltF {a b : Nat} (h : ¬ a < b) : Nat.blt a b = false := by rw [Bool.eq_false_iff, Ne, Nat.blt_eq]; exact h
theorem beqT {a b : Nat} (h : a = b) : Nat.beq a b = true := by rw [Nat.beq_eq]; exact h
theorem beqF {a b : Nat} (h : ¬ a = b) : Nat.beq a b = false := by rw [Bool.eq_false_iff, Ne, Nat.beq_eq]; exact h
def lg0 (_ : Nat) : Nat := 0
def lg1 (n : Nat) : Nat := bif Nat.ble (pw2 1) n then force (n / pw2 1) fun m => Nat.add 1 (lg0 m) else lg0 n
def lg2 (n : Nat) : Nat := bif Nat.ble (pw2 2) n then force (n / pw2 2) fun m => Nat.add 2 (lg1 m) else lg1 n
def lg3 (n : Nat) : Nat := bif Nat.ble (pw2 4) n then force (n / pw2 4) fun m => Nat.add 4 (lg2 m) else lg2 n
def lg4 (n : Nat) : Nat := bif Nat.ble (pw2 8) n then force (n / pw2 8) fun m => Nat.add 8 (lg3 m) else lg3 n
def lg5 (n : Nat) : Nat := bif Nat.ble (pw2 16) n then force (n / pw2 16) fun m => Nat.add 16 (lg4 m) else lg4 n
def lg6 (n : Nat) : Nat := bif Nat.ble (pw2 32) n then force (n / pw2 32) fun m => Nat.add 32 (lg5 m) else lg5 n
def lg7 (n : Nat) : Nat := bif Nat.ble (pw2 64) n then force (n / pw2 64) fun m => Nat.add 64 (lg6 m) else lg6 n
def lg8 (n : Nat) : Nat := bif Nat.ble (pw2 128) n then force (n / pw2 128) fun m => Nat.add 128 (lg7 m) else lg7 n
def lg9 (n : Nat) : Nat := bif Nat.ble (pw2 256) n then force (n / pw2 256) fun m => Nat.add 256 (lg8 m) else lg8 n
def lg10 (n : Nat) : Nat := bif Nat.ble (pw2 512) n then force (n / pw2 512) fun m => Nat.add 512 (lg9 m) else lg9 n
def lg11 (n : Nat) : Nat := bif Nat.ble (pw2 1024) n then force (n / pw2 1024) fun m => Nat.add 1024 (lg10 m) else lg10 n
def lg12 (n : Nat) : Nat := bif Nat.ble (pw2 2048) n then force (n / pw2 2048) fun m => Nat.add 2048 (lg11 m) else lg11 n
theorem lg_step {p : Nat} {f : Nat → Nat} (ih : ∀ n, n < pw2 p → f n = n.log2) (n : Nat) (h : n < pw2 (p + p)) :
    (bif Nat.ble (pw2 p) n then force (n / pw2 p) fun m => Nat.add p (f m) else f n) = n.log2 := by
  unfold pw2 at *
  by_cases c : 2 ^ p ≤ n
  · rw [show Nat.ble (2 ^ p) n = true by rw [Nat.ble_eq]; exact c, cond_true, force_eq]
    have hb : n / 2 ^ p < 2 ^ p := by
      rw [Nat.div_lt_iff_lt_mul (Nat.two_pow_pos _), ← Nat.pow_add]; exact h
    rw [ih _ hb, log2_div_pow]
    have : p ≤ n.log2 := by
      have := log2_mono c
      rwa [Nat.log2_two_pow] at this
    show p + (n.log2 - p) = n.log2
    omega
  · rw [show Nat.ble (2 ^ p) n = false by rw [Bool.eq_false_iff, Ne, Nat.ble_eq]; exact c, cond_false]
    exact ih n (by omega)
theorem lg0_eq (n : Nat) (h : n < pw2 1) : lg0 n = n.log2 := (Nat.le_zero.1 (log2_lt_pow (by simpa [pw2] using h))).symm
theorem lg1_eq (n : Nat) (h : n < pw2 2) : lg1 n = n.log2 := lg_step (p := 1) lg0_eq n h
theorem lg2_eq (n : Nat) (h : n < pw2 4) : lg2 n = n.log2 := lg_step (p := 2) lg1_eq n h
theorem lg3_eq (n : Nat) (h : n < pw2 8) : lg3 n = n.log2 := lg_step (p := 4) lg2_eq n h
theorem lg4_eq (n : Nat) (h : n < pw2 16) : lg4 n = n.log2 := lg_step (p := 8) lg3_eq n h
theorem lg5_eq (n : Nat) (h : n < pw2 32) : lg5 n = n.log2 := lg_step (p := 16) lg4_eq n h
theorem lg6_eq (n : Nat) (h : n < pw2 64) : lg6 n = n.log2 := lg_step (p := 32) lg5_eq n h
theorem lg7_eq (n : Nat) (h : n < pw2 128) : lg7 n = n.log2 := lg_step (p := 64) lg6_eq n h
theorem lg8_eq (n : Nat) (h : n < pw2 256) : lg8 n = n.log2 := lg_step (p := 128) lg7_eq n h
theorem lg9_eq (n : Nat) (h : n < pw2 512) : lg9 n = n.log2 := lg_step (p := 256) lg8_eq n h
theorem lg10_eq (n : Nat) (h : n < pw2 1024) : lg10 n = n.log2 := lg_step (p := 512) lg9_eq n h
theorem lg11_eq (n : Nat) (h : n < pw2 2048) : lg11 n = n.log2 := lg_step (p := 1024) lg10_eq n h
theorem lg12_eq (n : Nat) (h : n < pw2 4096) : lg12 n = n.log2 := lg_step (p := 2048) lg11_eq n h
def lgF (n : Nat) : Nat := force n fun n => bif Nat.blt n (pw2 4096) then lg12 n else n.log2
theorem lgF_eq (n : Nat) : lgF n = n.log2 := by
  unfold lgF
  rw [force_eq]
  by_cases h : n < pw2 4096
  · rw [bltT h, cond_true]; exact lg12_eq n h
  · rw [bltF h, cond_false]
def rungF (n d : Nat) : Nat :=
  force n fun n => force d fun d => force (lgF (n / d) - 52) fun L => force (d * 2 ^ L) fun g => force (n / g) fun q => force (n % g) fun r =>
    L * 2 ^ 52 + (bif Nat.blt g (2 * r) || (Nat.beq (2 * r) g && Nat.beq (q % 2) 1) then q + 1 else q)
theorem rungF_eq (n d : Nat) : rungF n d = rungQ n d := by
  unfold rungF rungQ RNE
  simp only [force_eq, lgF_eq]
  congr 1
  have h : (Nat.blt (d * 2 ^ ((n / d).log2 - 52)) (2 * (n % (d * 2 ^ ((n / d).log2 - 52)))) || (Nat.beq (2 * (n % (d * 2 ^ ((n / d).log2 - 52)))) (d * 2 ^ ((n / d).log2 - 52)) && Nat.beq (n / (d * 2 ^ ((n / d).log2 - 52)) % 2) 1)) =
      decide (d * 2 ^ ((n / d).log2 - 52) < 2 * (n % (d * 2 ^ ((n / d).log2 - 52))) ∨ 2 * (n % (d * 2 ^ ((n / d).log2 - 52))) = d * 2 ^ ((n / d).log2 - 52) ∧ n / (d * 2 ^ ((n / d).log2 - 52)) % 2 = 1) := by
    generalize d * 2 ^ ((n / d).log2 - 52) = g
    generalize n % g = r
    generalize n / g % 2 = q
    rw [Bool.eq_iff_iff]
    simp only [Bool.or_eq_true, Bool.and_eq_true, decide_eq_true_eq, Nat.blt_eq, Nat.beq_eq]
  rw [h]
  generalize d * 2 ^ ((n / d).log2 - 52) = g
  by_cases c : g < 2 * (n % g) ∨ 2 * (n % g) = g ∧ n / g % 2 = 1
  · rw [decide_eq_true c, if_pos c]; rfl
  · rw [decide_eq_false c, if_neg c]; rfl
def valF (r : Nat) : Nat := bif Nat.blt r (2 ^ 52) then r else (2 ^ 52 + r % 2 ^ 52) * 2 ^ (r / 2 ^ 52 - 1)
theorem valF_eq (r : Nat) : valF r = valR r := by
  unfold valF valR
  by_cases h : r < 2 ^ 52
  · rw [if_pos h, bltT h]; rfl
  · rw [if_neg h, bltF h]; rfl
def mvF (x : Nat) : Nat := force (x % 2 ^ 63) valF
theorem mvF_eq (x : Nat) : mvF x = mv x := by unfold mvF mv; rw [force_eq, valF_eq]; rfl
def sgF (x : Nat) : Bool := Nat.beq (x / 2 ^ 63 % 2) 1
theorem sgF_eq (x : Nat) : sgF x = sg x := by
  unfold sgF sg
  by_cases h : x / 2 ^ 63 % 2 = 1
  · rw [beqT h, beq_iff_eq.2 h]
  · rw [beqF h, beq_eq_false_iff_ne.2 h]
def finF (x : Nat) : Bool := Nat.blt (x % 2 ^ 63) INF
theorem finF_iff {x : Nat} : finF x = true ↔ fin x := by unfold finF fin rg; rw [Nat.blt_eq]
def wdF (s : Bool) (r : Nat) : Nat := force r fun r => force (bif Nat.blt r INF then r else INF) fun r => bif s then 2 ^ 63 + r else r
theorem wdF_eq (s : Bool) (r : Nat) : wdF s r = wd s (min r INF) := by
  unfold wdF wd
  rw [force_eq, force_eq]
  have e : (bif Nat.blt r INF then r else INF) = min r INF := by
    by_cases h : r < INF
    · rw [bltT h, cond_true, Nat.min_eq_left (Nat.le_of_lt h)]
    · rw [bltF h, cond_false, Nat.min_eq_right (Nat.le_of_not_lt h)]
  rw [e]
  cases s <;> simp only [cond_false, cond_true, Bool.false_eq_true, if_false, if_true]
def mulF (x y : Nat) : Nat := force x fun x => force y fun y => wdF (sgF x ^^ sgF y) (rungF (mvF x * mvF y) UN)
theorem mulF_eq {x y : Nat} (hx : fin x) (hy : fin y) : D.mul x y = some (mulF x y) := by
  rw [mul_fin x y hx hy]; unfold mulF; rw [force_eq, force_eq, wdF_eq, rungF_eq, mvF_eq, mvF_eq, sgF_eq, sgF_eq]; rfl
def divF (x y : Nat) : Nat := force x fun x => force y fun y => wdF (sgF x ^^ sgF y) (rungF (mvF x * UN) (mvF y))
theorem divF_eq {x y : Nat} (hx : fin x) (hy : fin y) (h0 : mvF y ≠ 0) : D.div x y = some (divF x y) := by
  rw [div_fin x y hx hy (by rwa [← mvF_eq])]; unfold divF; rw [force_eq, force_eq, wdF_eq, rungF_eq, mvF_eq, mvF_eq, sgF_eq, sgF_eq]; rfl
def addF (x y : Nat) : Nat := force x fun x => force y fun y => force (mvF x) fun a => force (mvF y) fun b =>
  bif sgF x ^^ sgF y then
    (bif Nat.beq a b then 0 else bif Nat.blt a b then wdF (sgF y) (rungF (b - a) 1) else wdF (sgF x) (rungF (a - b) 1))
  else (bif Nat.beq (a + b) 0 then wdF (sgF x) 0 else wdF (sgF x) (rungF (a + b) 1))
theorem addF_eq {x y : Nat} (hx : fin x) (hy : fin y) : D.add x y = some (addF x y) := by
  rw [add_fin x y hx hy]
  unfold addF
  simp only [force_eq, mvF_eq, sgF_eq]
  congr 1
  have hr : ∀ n, rq n 1 = min (rungF n 1) INF := fun n => by unfold rq; rw [rungF_eq]
  have h0 : rq 0 1 = 0 := by unfold rq; rw [rungQ_zero]; exact Nat.zero_min _
  unfold iv
  generalize mv x = a
  generalize mv y = b
  cases hs : sg x <;> cases ht : sg y <;> simp only [Bool.false_eq_true, if_false, if_true, Bool.false_xor, Bool.xor_false, Bool.xor_self, cond_false, cond_true, Bool.and_false, Bool.and_true]
  · by_cases c : a + b = 0
    · rw [if_pos (by omega), beqT c, cond_true, show ((a : Int) + b).natAbs = 0 by omega, h0, wdF_eq]; rfl
    · rw [if_neg (by omega), beqF c, cond_false, show ((a : Int) + b).natAbs = a + b by omega, decide_eq_false (by omega), hr, wdF_eq]
  · by_cases c : a = b
    · rw [if_pos (by omega), beqT c, cond_true, show ((a : Int) + -(b : Int)).natAbs = 0 by omega, h0]; rfl
    · rw [if_neg (by omega), beqF c, cond_false]
      by_cases d : a < b
      · rw [bltT d, cond_true, show ((a : Int) + -(b : Int)).natAbs = b - a by omega, decide_eq_true (by omega), hr, wdF_eq]
      · rw [bltF d, cond_false, show ((a : Int) + -(b : Int)).natAbs = a - b by omega, decide_eq_false (by omega), hr, wdF_eq]
  · by_cases c : a = b
    · rw [if_pos (by omega), beqT c, cond_true, show (-(a : Int) + (b : Int)).natAbs = 0 by omega, h0]; rfl
    · rw [if_neg (by omega), beqF c, cond_false]
      by_cases d : a < b
      · rw [bltT d, cond_true, show (-(a : Int) + (b : Int)).natAbs = b - a by omega, decide_eq_false (by omega), hr, wdF_eq]
      · rw [bltF d, cond_false, show (-(a : Int) + (b : Int)).natAbs = a - b by omega, decide_eq_true (by omega), hr, wdF_eq]
  · by_cases c : a + b = 0
    · rw [if_pos (by omega), beqT c, cond_true, show (-(a : Int) + -(b : Int)).natAbs = 0 by omega, h0, wdF_eq]; rfl
    · rw [if_neg (by omega), beqF c, cond_false, show (-(a : Int) + -(b : Int)).natAbs = a + b by omega, decide_eq_true (by omega), hr, wdF_eq]
def negF (x : Nat) : Nat := force x fun x => bif Nat.blt x (2 ^ 63) then x + 2 ^ 63 else x - 2 ^ 63
theorem negF_eq (x : Nat) : negF x = neg x := by
  unfold negF neg; rw [force_eq]
  by_cases h : x < 2 ^ 63
  · rw [if_pos h, bltT h, cond_true]
  · rw [if_neg h, bltF h, cond_false]
def subF (x y : Nat) : Nat := addF x (negF y)
theorem subF_eq {x y : Nat} (hx : fin x) (hy : fin y) (hl : y < 2 ^ 64) : D.sub x y = some (subF x y) := by
  rw [sub_eq x y hl]; unfold subF; rw [negF_eq]; exact addF_eq hx ((fin_neg y hl).2 hy)
end Fl
