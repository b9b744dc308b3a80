/-
  DERIVED. GIVEN WITH THE SEED: THE CARDS: each row of YtmfmgofafamemaaDoorRows.lean that lists a variable, with what it lists TIED to the program's text (the seventh form; the later family's looks); each row that meets fmt, with fmt's text TOLD by the authors' own Lean function (tested against real Go, not proved from fmt's source: count such statements apart). THE CARD IS WHAT COUNTS. Prove the row's statement (the work); the ties are given (YtmfmgofafamemaaDoorTie.lean); close each card by the builder's one call (the guide's Derived/Test/ToyasCard.lean, 'card_holds'). Laid BY PROGRAM, IN A SANDBOX (cutbox-door.mjs). By AI agents, Wed Nov 11 2026. No macro, syntax, notation, axiom, sorry.
-/
import Derived.Test.YtmfmgofafamemaaDoorRows
import GoSem.ClaimSeven
namespace Go.Proofs.YtmfmgofafamemaaDoor
namespace Rows

/-- THE TIED CARD OF 'surdlaw2.IeeeRows'. -/
def ieeeRowsCard : Claim7 := { stood := { row := ieeeRowsRow, standIns := [], harness := (true, "08553623a3073dd00a8d27bea33b14da41f4eac3952974ec39266d0c887d2b4c"), looks := false }, kinds := [], alts := [], laidByText := true, laidKinds := [.data, .data, .data], laidTests := true, laidLooks := .later }
def IeeeRowsCardSaid : Prop := Claim7.holds Tryd.pinned (.plain (OpenSpec.ofChange ieeeRowsSpec)) ieeeRowsCard

/-- THE TIED CARD OF 'surdlaw2.IeeeEnds'. -/
def ieeeEndsCard : Claim7 := { stood := { row := ieeeEndsRow, standIns := [], harness := (true, "08553623a3073dd00a8d27bea33b14da41f4eac3952974ec39266d0c887d2b4c"), looks := false }, kinds := [], alts := [], laidByText := true, laidKinds := [.data, .data, .data], laidTests := true, laidLooks := .later }
def IeeeEndsCardSaid : Prop := Claim7.holds Tryd.pinned (.plain (OpenSpec.ofChange ieeeEndsSpec)) ieeeEndsCard

/-- THE TIED CARD OF 'surdlaw2.IeeeNeighbours'. -/
def ieeeNeighboursCard : Claim7 := { stood := { row := ieeeNeighboursRow, standIns := [], harness := (true, "08553623a3073dd00a8d27bea33b14da41f4eac3952974ec39266d0c887d2b4c"), looks := false }, kinds := [], alts := [], laidByText := true, laidKinds := [.data, .data, .data], laidTests := true, laidLooks := .later }
def IeeeNeighboursCardSaid : Prop := Claim7.holds Tryd.pinned (.plain (OpenSpec.ofChange ieeeNeighboursSpec)) ieeeNeighboursCard

/-- THE TIED CARD OF 'surdlaw2.IeeeUlps'. -/
def ieeeUlpsCard : Claim7 := { stood := { row := ieeeUlpsRow, standIns := [], harness := (true, "08553623a3073dd00a8d27bea33b14da41f4eac3952974ec39266d0c887d2b4c"), looks := false }, kinds := [], alts := [], laidByText := true, laidKinds := [.data, .data, .data], laidTests := true, laidLooks := .later }
def IeeeUlpsCardSaid : Prop := Claim7.holds Tryd.pinned (.plain (OpenSpec.ofChange ieeeUlpsSpec)) ieeeUlpsCard

/-- THE SECOND FORM's CARD OF 'surdlaw2.IeeeRows'. -/
def ieeeRowsUptoCard : Claim7 := { stood := { row := ieeeRowsUptoRow, standIns := [], harness := (true, "08553623a3073dd00a8d27bea33b14da41f4eac3952974ec39266d0c887d2b4c"), looks := false }, kinds := [], alts := [], laidByText := true, laidKinds := [.data, .data, .data], laidTests := true, laidLooks := .later }
def IeeeRowsUptoCardSaid : Prop := Claim7.holds Tryd.pinned (.plain (OpenSpec.upto ieeeRowsSpec)) ieeeRowsUptoCard

/-- THE SECOND FORM's CARD OF 'surdlaw2.IeeeEnds'. -/
def ieeeEndsUptoCard : Claim7 := { stood := { row := ieeeEndsUptoRow, standIns := [], harness := (true, "08553623a3073dd00a8d27bea33b14da41f4eac3952974ec39266d0c887d2b4c"), looks := false }, kinds := [], alts := [], laidByText := true, laidKinds := [.data, .data, .data], laidTests := true, laidLooks := .later }
def IeeeEndsUptoCardSaid : Prop := Claim7.holds Tryd.pinned (.plain (OpenSpec.upto ieeeEndsSpec)) ieeeEndsUptoCard

/-- THE SECOND FORM's CARD OF 'surdlaw2.IeeeNeighbours'. -/
def ieeeNeighboursUptoCard : Claim7 := { stood := { row := ieeeNeighboursUptoRow, standIns := [], harness := (true, "08553623a3073dd00a8d27bea33b14da41f4eac3952974ec39266d0c887d2b4c"), looks := false }, kinds := [], alts := [], laidByText := true, laidKinds := [.data, .data, .data], laidTests := true, laidLooks := .later }
def IeeeNeighboursUptoCardSaid : Prop := Claim7.holds Tryd.pinned (.plain (OpenSpec.upto ieeeNeighboursSpec)) ieeeNeighboursUptoCard

/-- THE SECOND FORM's CARD OF 'surdlaw2.IeeeUlps'. -/
def ieeeUlpsUptoCard : Claim7 := { stood := { row := ieeeUlpsUptoRow, standIns := [], harness := (true, "08553623a3073dd00a8d27bea33b14da41f4eac3952974ec39266d0c887d2b4c"), looks := false }, kinds := [], alts := [], laidByText := true, laidKinds := [.data, .data, .data], laidTests := true, laidLooks := .later }
def IeeeUlpsUptoCardSaid : Prop := Claim7.holds Tryd.pinned (.plain (OpenSpec.upto ieeeUlpsSpec)) ieeeUlpsUptoCard
end Rows
end Go.Proofs.YtmfmgofafamemaaDoor
