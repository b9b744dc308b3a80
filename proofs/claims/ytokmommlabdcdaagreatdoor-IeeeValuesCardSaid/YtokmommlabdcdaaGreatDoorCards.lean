/-
  DERIVED. GIVEN WITH THE SEED: THE CARDS: each row of YtokmommlabdcdaaGreatDoorRows.lean that lists a variable, with what it lists TIED to the program's text (the seventh form; the later family's looks); each row that meets fmt, with fmt's text TOLD by the authors' own Lean function (tested against real Go, not proved from fmt's source: count such statements apart). THE CARD IS WHAT COUNTS. Prove the row's statement (the work); the ties are given (YtokmommlabdcdaaGreatDoorTie.lean); close each card by the builder's one call (the guide's Derived/Test/ToyasCard.lean, 'card_holds'). Laid BY PROGRAM, IN A SANDBOX (cutbox-door.mjs). By AI agents, Wed Nov 11 2026. No macro, syntax, notation, axiom, sorry.
-/
import Derived.Test.YtokmommlabdcdaaGreatDoorRows
import GoSem.ClaimSeven
namespace Go.Proofs.YtokmommlabdcdaaGreatDoor
namespace Rows

/-- THE TIED CARD OF 'surdlaw2.IeeeValues'. -/
def ieeeValuesCard : Claim7 := { stood := { row := ieeeValuesRow, standIns := [], harness := (true, "af4e6ec8e72a9e9700196683eea97d950d0c909d54f2c4e19cd007fc474e3623"), looks := false }, kinds := [], alts := [], laidByText := true, laidKinds := [.data, .data, .data], laidTests := true, laidLooks := .later }
def IeeeValuesCardSaid : Prop := Claim7.holds Tryz.pinned (.plain (OpenSpec.ofChange ieeeValuesSpec)) ieeeValuesCard

/-- THE TIED CARD OF 'surdlaw2.IeeeClasses'. -/
def ieeeClassesCard : Claim7 := { stood := { row := ieeeClassesRow, standIns := [], harness := (true, "af4e6ec8e72a9e9700196683eea97d950d0c909d54f2c4e19cd007fc474e3623"), looks := false }, kinds := [], alts := [], laidByText := true, laidKinds := [.data, .data, .data], laidTests := true, laidLooks := .later }
def IeeeClassesCardSaid : Prop := Claim7.holds Tryz.pinned (.plain (OpenSpec.ofChange ieeeClassesSpec)) ieeeClassesCard

/-- THE SECOND FORM's CARD OF 'surdlaw2.IeeeValues'. -/
def ieeeValuesUptoCard : Claim7 := { stood := { row := ieeeValuesUptoRow, standIns := [], harness := (true, "af4e6ec8e72a9e9700196683eea97d950d0c909d54f2c4e19cd007fc474e3623"), looks := false }, kinds := [], alts := [], laidByText := true, laidKinds := [.data, .data, .data], laidTests := true, laidLooks := .later }
def IeeeValuesUptoCardSaid : Prop := Claim7.holds Tryz.pinned (.plain (OpenSpec.upto ieeeValuesSpec)) ieeeValuesUptoCard

/-- THE SECOND FORM's CARD OF 'surdlaw2.IeeeClasses'. -/
def ieeeClassesUptoCard : Claim7 := { stood := { row := ieeeClassesUptoRow, standIns := [], harness := (true, "af4e6ec8e72a9e9700196683eea97d950d0c909d54f2c4e19cd007fc474e3623"), looks := false }, kinds := [], alts := [], laidByText := true, laidKinds := [.data, .data, .data], laidTests := true, laidLooks := .later }
def IeeeClassesUptoCardSaid : Prop := Claim7.holds Tryz.pinned (.plain (OpenSpec.upto ieeeClassesSpec)) ieeeClassesUptoCard
end Rows
end Go.Proofs.YtokmommlabdcdaaGreatDoor
