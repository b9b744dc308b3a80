/-
  No cell of these rows narrows 'for every input' (looked for: loops, veiled, ifaces, maps, wideKeys, modest, calm, conditions, laid).
  DERIVED. THE GIVEN ROWS OF THIS SEAT. 6 by the template 'for every input the law returns true; each argument reads behind the call as it read before'; 0 by the template 'total and deterministic' (their statements: YtmfmgofafamemaaTotals.lean).
  GIVEN WITH THE SEED: the statements are not yours to turn. If you find one false, say at which input.
  Laid BY PROGRAM, IN A SANDBOX (cutbox-rows.mjs): the forced cells as the released guide's own fill.sh prints them over the translation d798a80e946cd4d5… (all of the seat's roots in one cut). By AI agents, Wed Nov 11 2026. No macro, syntax, notation, axiom, sorry.
-/
import Derived.Test.YtmfmgofafamemaaChecked
import GoSem.Claim
import GoSem.ClaimJoined
import GoSem.ClaimMapViews
import Derived.JoinedTies
import Derived.KernelRfl
namespace Go.Proofs.Ytmfmgofafamemaa
/- THE CELL 'sum', in the pinned program and in every row, IS THE sha256 OF THE DUMP (.gsa) THAT YtmfmgofafamemaaProg.lean LOADS. Nothing in Lean hashes anything: it is a label: what it is worth is what the hold of that sum in a sandbox is worth. -/
noncomputable def Try.pinned : Pinned := { name := "ytmfmgofafamemaa", sum := "d798a80e946cd4d504570ab96dde29d8c8382eacbaa2e5b162e5af88d5dac1d0", checked := Try.checked }
namespace Rows
def none {H : Type} : Left H := { results := [], args := [] }

/-- 'surdlaw17.StartCircles': WHATEVER THE INPUT: true; the input reads as it did. -/
def startCirclesSpec : ChangeSpec := { name := "startCircles", fn := fun _ => fun
  | [d1, d2] => { results := [.lit (.bool true)], args := [d1, d2] }
  | _ => none }
def startCirclesRow : OpenClaim := { program := "ytmfmgofafamemaa", sum := "d798a80e946cd4d504570ab96dde29d8c8382eacbaa2e5b162e5af88d5dac1d0", func := "surd/surdlaw17.StartCircles", spec := "startCircles", inPlace := ["math.Float64bits", "math.Float64frombits"], apart := false }
def StartCirclesSaid : Prop := startCirclesRow.holds Try.pinned (OpenSpec.ofChange startCirclesSpec)

/-- ITS FALSE NEIGHBOUR: 'it returns false'. Refute it at one input. -/
def startCirclesWrong : ChangeSpec := { name := "startCircles", fn := fun _ => fun
  | [d1, d2] => { results := [.lit (.bool false)], args := [d1, d2] }
  | _ => none }
def StartCirclesWrongFalsely : Prop := startCirclesRow.holds Try.pinned (OpenSpec.ofChange startCirclesWrong)

/-- 'surdlaw17.StartScales': WHATEVER THE INPUT: true; the input reads as it did. -/
def startScalesSpec : ChangeSpec := { name := "startScales", fn := fun _ => fun
  | [d1, d2] => { results := [.lit (.bool true)], args := [d1, d2] }
  | _ => none }
def startScalesRow : OpenClaim := { program := "ytmfmgofafamemaa", sum := "d798a80e946cd4d504570ab96dde29d8c8382eacbaa2e5b162e5af88d5dac1d0", func := "surd/surdlaw17.StartScales", spec := "startScales", inPlace := ["math.Float64bits", "math.Float64frombits"], apart := false }
def StartScalesSaid : Prop := startScalesRow.holds Try.pinned (OpenSpec.ofChange startScalesSpec)

/-- ITS FALSE NEIGHBOUR: 'it returns false'. Refute it at one input. -/
def startScalesWrong : ChangeSpec := { name := "startScales", fn := fun _ => fun
  | [d1, d2] => { results := [.lit (.bool false)], args := [d1, d2] }
  | _ => none }
def StartScalesWrongFalsely : Prop := startScalesRow.holds Try.pinned (OpenSpec.ofChange startScalesWrong)

/-- 'surdlaw5.CpxTurns': WHATEVER THE INPUT: true; the input reads as it did. -/
def cpxTurnsSpec : ChangeSpec := { name := "cpxTurns", fn := fun _ => fun
  | [d1, d2] => { results := [.lit (.bool true)], args := [d1, d2] }
  | _ => none }
def cpxTurnsRow : OpenClaim := { program := "ytmfmgofafamemaa", sum := "d798a80e946cd4d504570ab96dde29d8c8382eacbaa2e5b162e5af88d5dac1d0", func := "surd/surdlaw5.CpxTurns", spec := "cpxTurns", inPlace := ["math.Float64frombits", "math.Float64bits"], unfollowed := true, recurses := true, apart := false }
def CpxTurnsSaid : Prop := cpxTurnsRow.holds Try.pinned (OpenSpec.ofChange cpxTurnsSpec)

/-- ITS FALSE NEIGHBOUR: 'it returns false'. Refute it at one input. -/
def cpxTurnsWrong : ChangeSpec := { name := "cpxTurns", fn := fun _ => fun
  | [d1, d2] => { results := [.lit (.bool false)], args := [d1, d2] }
  | _ => none }
def CpxTurnsWrongFalsely : Prop := cpxTurnsRow.holds Try.pinned (OpenSpec.ofChange cpxTurnsWrong)

/-- 'surdlaw5.CpxOrders': WHATEVER THE INPUT: true; the input reads as it did. -/
def cpxOrdersSpec : ChangeSpec := { name := "cpxOrders", fn := fun _ => fun
  | [d1, d2, d3] => { results := [.lit (.bool true)], args := [d1, d2, d3] }
  | _ => none }
def cpxOrdersRow : OpenClaim := { program := "ytmfmgofafamemaa", sum := "d798a80e946cd4d504570ab96dde29d8c8382eacbaa2e5b162e5af88d5dac1d0", func := "surd/surdlaw5.CpxOrders", spec := "cpxOrders", inPlace := ["math.Float64frombits", "math.Float64bits"], unfollowed := true, recurses := true, apart := false }
def CpxOrdersSaid : Prop := cpxOrdersRow.holds Try.pinned (OpenSpec.ofChange cpxOrdersSpec)

/-- ITS FALSE NEIGHBOUR: 'it returns false'. Refute it at one input. -/
def cpxOrdersWrong : ChangeSpec := { name := "cpxOrders", fn := fun _ => fun
  | [d1, d2, d3] => { results := [.lit (.bool false)], args := [d1, d2, d3] }
  | _ => none }
def CpxOrdersWrongFalsely : Prop := cpxOrdersRow.holds Try.pinned (OpenSpec.ofChange cpxOrdersWrong)

/-- 'surdlaw5.CpxClasses': WHATEVER THE INPUT: true; the input reads as it did. -/
def cpxClassesSpec : ChangeSpec := { name := "cpxClasses", fn := fun _ => fun
  | [d1, d2] => { results := [.lit (.bool true)], args := [d1, d2] }
  | _ => none }
def cpxClassesRow : OpenClaim := { program := "ytmfmgofafamemaa", sum := "d798a80e946cd4d504570ab96dde29d8c8382eacbaa2e5b162e5af88d5dac1d0", func := "surd/surdlaw5.CpxClasses", spec := "cpxClasses", inPlace := ["math.Float64frombits", "math.Float64bits"], unfollowed := true, recurses := true, apart := false }
def CpxClassesSaid : Prop := cpxClassesRow.holds Try.pinned (OpenSpec.ofChange cpxClassesSpec)

/-- ITS FALSE NEIGHBOUR: 'it returns false'. Refute it at one input. -/
def cpxClassesWrong : ChangeSpec := { name := "cpxClasses", fn := fun _ => fun
  | [d1, d2] => { results := [.lit (.bool false)], args := [d1, d2] }
  | _ => none }
def CpxClassesWrongFalsely : Prop := cpxClassesRow.holds Try.pinned (OpenSpec.ofChange cpxClassesWrong)

/-- 'surdlaw5.CpxQuotients': WHATEVER THE INPUT: true; the input reads as it did. -/
def cpxQuotientsSpec : ChangeSpec := { name := "cpxQuotients", fn := fun _ => fun
  | [d] => { results := [.lit (.bool true)], args := [d] }
  | _ => none }
def cpxQuotientsRow : OpenClaim := { program := "ytmfmgofafamemaa", sum := "d798a80e946cd4d504570ab96dde29d8c8382eacbaa2e5b162e5af88d5dac1d0", func := "surd/surdlaw5.CpxQuotients", spec := "cpxQuotients", inPlace := ["math.Float64bits", "math.Float64frombits"], unfollowed := true, recurses := true, apart := false }
def CpxQuotientsSaid : Prop := cpxQuotientsRow.holds Try.pinned (OpenSpec.ofChange cpxQuotientsSpec)

/-- ITS FALSE NEIGHBOUR: 'it returns false'. Refute it at one input. -/
def cpxQuotientsWrong : ChangeSpec := { name := "cpxQuotients", fn := fun _ => fun
  | [d] => { results := [.lit (.bool false)], args := [d] }
  | _ => none }
def CpxQuotientsWrongFalsely : Prop := cpxQuotientsRow.holds Try.pinned (OpenSpec.ofChange cpxQuotientsWrong)

/- THE SECOND FORM. 'bulk': how many values and letters a reading holds, each counted each time it is reached (what is shared counts as often as it is met; a slice's spare places count too). A statement '..UptoSaid' is the law's where the arguments, and the package variables that the reading takes, are together of bulk at most 1048576: NARROWER than '..Said'. Prove '..Said' where nothing that the law and all that it calls make is longer than what came in: it says more and counts as full. Else prove '..UptoSaid'. A law counts once. -/
mutual
def uptoBulk {H : Type} : DataW H → Nat
  | .lit (.string bytes) => bytes.length + 1
  | .lit _ => 1
  | .nil => 1
  | .ptr d => uptoBulk d + 1
  | .slice elems spare => uptoBulkAll elems + uptoBulkAll spare + 1
  | .agg parts => uptoBulkAll parts + 1
  | .iface _ d => uptoBulk d + 1
  | .map entries => uptoBulkEntries entries + 1
  | .held _ => 1
def uptoBulkAll {H : Type} : List (DataW H) → Nat
  | [] => 0
  | d :: r => uptoBulk d + uptoBulkAll r
def uptoBulkEntries {H : Type} : List (Lit × DataW H) → Nat
  | [] => 0
  | x :: r => uptoBulkEntry x + uptoBulkEntries r
def uptoBulkEntry {H : Type} : Lit × DataW H → Nat
  | (.string bytes, d) => bytes.length + uptoBulk d + 1
  | (_, d) => uptoBulk d + 1
 end
def uptoSmall : (H : Type) → List (DataW H) → Bool := fun _ ds => decide (uptoBulkAll ds ≤ 1048576)
def OpenSpec.upto (s : _root_.Go.ChangeSpec) : _root_.Go.OpenSpec := { _root_.Go.OpenSpec.ofChange s with cond := some uptoSmall }

/-- 'surdlaw17.StartCircles', WHERE WHAT IT READS IS OF BULK AT MOST 1048576: true; the input reads as it did. -/
def startCirclesUptoRow : OpenClaim := { program := "ytmfmgofafamemaa", sum := "d798a80e946cd4d504570ab96dde29d8c8382eacbaa2e5b162e5af88d5dac1d0", func := "surd/surdlaw17.StartCircles", spec := "startCircles", inPlace := ["math.Float64bits", "math.Float64frombits"], apart := false, narrowed := true }
def StartCirclesUptoSaid : Prop := startCirclesUptoRow.holds Try.pinned (OpenSpec.upto startCirclesSpec)

/-- 'surdlaw17.StartScales', WHERE WHAT IT READS IS OF BULK AT MOST 1048576: true; the input reads as it did. -/
def startScalesUptoRow : OpenClaim := { program := "ytmfmgofafamemaa", sum := "d798a80e946cd4d504570ab96dde29d8c8382eacbaa2e5b162e5af88d5dac1d0", func := "surd/surdlaw17.StartScales", spec := "startScales", inPlace := ["math.Float64bits", "math.Float64frombits"], apart := false, narrowed := true }
def StartScalesUptoSaid : Prop := startScalesUptoRow.holds Try.pinned (OpenSpec.upto startScalesSpec)

/-- 'surdlaw5.CpxTurns', WHERE WHAT IT READS IS OF BULK AT MOST 1048576: true; the input reads as it did. -/
def cpxTurnsUptoRow : OpenClaim := { program := "ytmfmgofafamemaa", sum := "d798a80e946cd4d504570ab96dde29d8c8382eacbaa2e5b162e5af88d5dac1d0", func := "surd/surdlaw5.CpxTurns", spec := "cpxTurns", inPlace := ["math.Float64frombits", "math.Float64bits"], unfollowed := true, recurses := true, apart := false, narrowed := true }
def CpxTurnsUptoSaid : Prop := cpxTurnsUptoRow.holds Try.pinned (OpenSpec.upto cpxTurnsSpec)

/-- 'surdlaw5.CpxOrders', WHERE WHAT IT READS IS OF BULK AT MOST 1048576: true; the input reads as it did. -/
def cpxOrdersUptoRow : OpenClaim := { program := "ytmfmgofafamemaa", sum := "d798a80e946cd4d504570ab96dde29d8c8382eacbaa2e5b162e5af88d5dac1d0", func := "surd/surdlaw5.CpxOrders", spec := "cpxOrders", inPlace := ["math.Float64frombits", "math.Float64bits"], unfollowed := true, recurses := true, apart := false, narrowed := true }
def CpxOrdersUptoSaid : Prop := cpxOrdersUptoRow.holds Try.pinned (OpenSpec.upto cpxOrdersSpec)

/-- 'surdlaw5.CpxClasses', WHERE WHAT IT READS IS OF BULK AT MOST 1048576: true; the input reads as it did. -/
def cpxClassesUptoRow : OpenClaim := { program := "ytmfmgofafamemaa", sum := "d798a80e946cd4d504570ab96dde29d8c8382eacbaa2e5b162e5af88d5dac1d0", func := "surd/surdlaw5.CpxClasses", spec := "cpxClasses", inPlace := ["math.Float64frombits", "math.Float64bits"], unfollowed := true, recurses := true, apart := false, narrowed := true }
def CpxClassesUptoSaid : Prop := cpxClassesUptoRow.holds Try.pinned (OpenSpec.upto cpxClassesSpec)

/-- 'surdlaw5.CpxQuotients', WHERE WHAT IT READS IS OF BULK AT MOST 1048576: true; the input reads as it did. -/
def cpxQuotientsUptoRow : OpenClaim := { program := "ytmfmgofafamemaa", sum := "d798a80e946cd4d504570ab96dde29d8c8382eacbaa2e5b162e5af88d5dac1d0", func := "surd/surdlaw5.CpxQuotients", spec := "cpxQuotients", inPlace := ["math.Float64bits", "math.Float64frombits"], unfollowed := true, recurses := true, apart := false, narrowed := true }
def CpxQuotientsUptoSaid : Prop := cpxQuotientsUptoRow.holds Try.pinned (OpenSpec.upto cpxQuotientsSpec)

end Rows
end Go.Proofs.Ytmfmgofafamemaa
