/- What the operations on complex numbers do, as relations between words. No conditions. -/
import Derived.Test.YtmfmgofafamemaaFlWalk
namespace Fl
open Go

def FAdd (x y r : Nat) : Prop := Res (D.add x y) r
def FSub (x y r : Nat) : Prop := Res (D.sub x y) r
def FMul (x y r : Nat) : Prop := Res (D.mul x y) r
def FDiv (x y r : Nat) : Prop := Res (D.div x y) r
theorem fop_add (x y : Nat) (w : World) : FAdd x y (fop .add x y w) := by unfold FAdd; exact fop_res .add x y w
theorem fop_sub (x y : Nat) (w : World) : FSub x y (fop .sub x y w) := by unfold FSub; exact fop_res .sub x y w
theorem fop_mul (x y : Nat) (w : World) : FMul x y (fop .mul x y w) := by unfold FMul; exact fop_res .mul x y w
theorem fop_div (x y : Nat) (w : World) : FDiv x y (fop .quo x y w) := by unfold FDiv; exact fop_res .quo x y w

def AddR (a b c d x y : Nat) : Prop := FAdd a c x ∧ FAdd b d y
def SubR (a b c d x y : Nat) : Prop := FSub a c x ∧ FSub b d y
def MulR (a b c d x y : Nat) : Prop := ∃ p q r s, FMul a c p ∧ FMul b d q ∧ FSub p q x ∧ FMul a d r ∧ FMul b c s ∧ FAdd r s y
/-- is x at least y, as the order of binary64 has it? -/
def geB (x y : Nat) : Bool := FloatKind.f64.format.order x y == some .gt || FloatKind.f64.format.order x y == some .eq
def DivR (a b c d x y : Nat) : Prop :=
  (geB (rg c) (rg d) = true ∧ ∃ r m t m1 n1 m2 n2, FDiv d c r ∧ FMul d r m ∧ FAdd c m t ∧ FMul b r m1 ∧ FAdd a m1 n1 ∧ FDiv n1 t x ∧ FMul a r m2 ∧ FSub b m2 n2 ∧ FDiv n2 t y) ∨
  (geB (rg c) (rg d) = false ∧ ∃ r m t m1 n1 m2 n2, FDiv c d r ∧ FMul c r m ∧ FAdd m d t ∧ FMul a r m1 ∧ FAdd m1 b n1 ∧ FDiv n1 t x ∧ FMul b r m2 ∧ FSub m2 a n2 ∧ FDiv n2 t y)

/-- the sign turned. -/
def neg (x : Nat) : Nat := if x < 2 ^ 63 then x + 2 ^ 63 else x - 2 ^ 63

/-- both NaN, or the same word. -/
def Same (x y : Nat) : Prop := x = y ∨ (isNan x ∧ isNan y)
end Fl
