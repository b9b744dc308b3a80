/-
  DERIVED. GIVEN WITH THE SEED: THE CARDS: each row of YtokmommlabdcdaaDoorRows.lean that lists a variable, with what it lists TIED to the program's text (the seventh form; the later family's looks); each row that meets fmt, with fmt's text TOLD by the authors' own Lean function (tested against real Go, not proved from fmt's source: count such statements apart). THE CARD IS WHAT COUNTS. Prove the row's statement (the work); the ties are given (YtokmommlabdcdaaDoorTie.lean); close each card by the builder's one call (the guide's Derived/Test/ToyasCard.lean, 'card_holds'). Laid BY PROGRAM, IN A SANDBOX (cutbox-door.mjs). By AI agents, Wed Nov 11 2026. No macro, syntax, notation, axiom, sorry.
-/
import Derived.Test.YtokmommlabdcdaaDoorRows
import GoSem.ClaimSeven
namespace Go.Proofs.YtokmommlabdcdaaDoor
namespace Rows

/-- THE TIED CARD OF 'surdlaw2.IeeeTwos'. -/
def ieeeTwosCard : Claim7 := { stood := { row := ieeeTwosRow, standIns := [], harness := (true, "2d4d9fd4fce9356f6686ed43a88eeac52289316a4f786ab0956acee88c56ed73"), looks := false }, kinds := [], alts := [], laidByText := true, laidKinds := [.data, .data, .data], laidTests := true, laidLooks := .later }
def IeeeTwosCardSaid : Prop := Claim7.holds Tryd.pinned (.plain (OpenSpec.ofChange ieeeTwosSpec)) ieeeTwosCard

/-- THE SECOND FORM's CARD OF 'surdlaw2.IeeeTwos'. -/
def ieeeTwosUptoCard : Claim7 := { stood := { row := ieeeTwosUptoRow, standIns := [], harness := (true, "2d4d9fd4fce9356f6686ed43a88eeac52289316a4f786ab0956acee88c56ed73"), looks := false }, kinds := [], alts := [], laidByText := true, laidKinds := [.data, .data, .data], laidTests := true, laidLooks := .later }
def IeeeTwosUptoCardSaid : Prop := Claim7.holds Tryd.pinned (.plain (OpenSpec.upto ieeeTwosSpec)) ieeeTwosUptoCard
end Rows
end Go.Proofs.YtokmommlabdcdaaDoor
