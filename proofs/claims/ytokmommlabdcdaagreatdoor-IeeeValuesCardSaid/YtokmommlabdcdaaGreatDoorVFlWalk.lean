/- The walk's laws on binary64, NaNs too: an operation gives one fixed word, or some NaN off the tape. No conditions. -/
import Derived.WalkKit
import Derived.WalkLawsBesides
import Derived.Deep.Draws
import Derived.Test.YtokmommlabdcdaaGreatDoorVFl
set_option linter.unusedVariables false
set_option linter.unusedSimpArgs false
namespace Fl
open Go

/-- what an operation may answer: its one word, or, where it has none, some NaN. -/
def Res (o : Option Nat) (r : Nat) : Prop := match o with
  | some q => r = q
  | none => isNan r ∧ r < 2 ^ 64

def fop (op : BinOp) (x y : Nat) (w : World) : Nat := match floatBits op .f64 x y with
  | some r => r
  | none => (Question.nanBits .f64 x y).cut (w.tape w.drawn (.nanBits .f64 x y))

def dop (op : BinOp) (x y : Nat) : Nat := match floatBits op .f64 x y with
  | some _ => 0
  | none => 1

theorem nan_cut (t x y : Nat) : isNan ((Question.nanBits .f64 x y).cut t) ∧ (Question.nanBits .f64 x y).cut t < 2 ^ 64 := by
  unfold Question.cut isNan rg INF
  simp only
  generalize t / 2 = u
  have h1 : t % 2 < 2 := Nat.mod_lt _ (by omega)
  have h2 : u % (2 ^ 52 - 1) < 2 ^ 52 - 1 := Nat.mod_lt _ (by omega)
  generalize t % 2 = b at *
  generalize u % (2 ^ 52 - 1) = c at *
  omega

theorem fop_res (op : BinOp) (x y : Nat) (w : World) : Res (floatBits op .f64 x y) (fop op x y w) := by
  unfold Res fop
  split
  · rfl
  · exact nan_cut _ _ _

section
variable {P : Program} (w : World)
theorem run_fop (op : BinOp) (hop : op = .add ∨ op = .sub ∨ op = .mul ∨ op = .quo) (t : TypeId) (x y : Nat) :
    (binOp op t (.float .f64 x) (.float .f64 y)).run P w = .ok (.float .f64 (fop op x y w)) (w.drewN (dop op x y)) := by
  unfold fop dop
  cases h : floatBits op .f64 x y with
  | some r => exact run_float_arith w op t .f64 x y r h
  | none =>
    unfold floatBits at h
    rcases hop with rfl | rfl | rfl | rfl <;> simp only at h <;>
      simp [binOp, Op.floatArith, h, choose, Sem.run, Question.forced, World.drewN]

@[go_sem] theorem run_fop_add (t : TypeId) (x y : Nat) : (binOp .add t (.float .f64 x) (.float .f64 y)).run P w = .ok (.float .f64 (fop .add x y w)) (w.drewN (dop .add x y)) := run_fop w .add (by simp) t x y
@[go_sem] theorem run_fop_sub (t : TypeId) (x y : Nat) : (binOp .sub t (.float .f64 x) (.float .f64 y)).run P w = .ok (.float .f64 (fop .sub x y w)) (w.drewN (dop .sub x y)) := run_fop w .sub (by simp) t x y
@[go_sem] theorem run_fop_mul (t : TypeId) (x y : Nat) : (binOp .mul t (.float .f64 x) (.float .f64 y)).run P w = .ok (.float .f64 (fop .mul x y w)) (w.drewN (dop .mul x y)) := run_fop w .mul (by simp) t x y
@[go_sem] theorem run_fop_quo (t : TypeId) (x y : Nat) : (binOp .quo t (.float .f64 x) (.float .f64 y)).run P w = .ok (.float .f64 (fop .quo x y w)) (w.drewN (dop .quo x y)) := run_fop w .quo (by simp) t x y
end
end Fl
