/-
  No cell of these rows narrows 'for every input' (looked for: loops, veiled, ifaces, maps, wideKeys, modest, calm, conditions, laid).
  DERIVED. THE GIVEN ROWS OF THIS SEAT. 9 by the template 'for every input the law returns true; each argument reads behind the call as it read before'; 0 by the template 'total and deterministic' (their statements: YtokmommlabdcdaaGreatTotals.lean).
  GIVEN WITH THE SEED: the statements are not yours to turn. If you find one false, say at which input.
  Laid BY PROGRAM, IN A SANDBOX (cutbox-rows.mjs): the forced cells as the released guide's own fill.sh prints them over the translation 86f33fd2883fec67… (all of the seat's roots in one cut). By AI agents, Wed Nov 11 2026. No macro, syntax, notation, axiom, sorry.
-/
import Derived.Test.YtokmommlabdcdaaGreatChecked
import GoSem.Claim
import GoSem.ClaimJoined
import GoSem.ClaimMapViews
import Derived.JoinedTies
import Derived.KernelRfl
namespace Go.Proofs.YtokmommlabdcdaaGreat
/- THE CELL 'sum', in the pinned program and in every row, IS THE sha256 OF THE DUMP (.gsa) THAT YtokmommlabdcdaaGreatProg.lean LOADS. Nothing in Lean hashes anything: it is a label: what it is worth is what the hold of that sum in a sandbox is worth. -/
noncomputable def Tryz.pinned : Pinned := { name := "ytokmommlabdcdaagreat", sum := "86f33fd2883fec67ce6ba66348dc79be379a384c7b46a9108b1922fd99d50a40", checked := Tryz.checked }
namespace Rows
def none {H : Type} : Left H := { results := [], args := [] }

/-- 'surdlaw5.CpxRings': WHATEVER THE INPUT: true; the input reads as it did. -/
def cpxRingsSpec : ChangeSpec := { name := "cpxRings", fn := fun _ => fun
  | [d1, d2] => { results := [.lit (.bool true)], args := [d1, d2] }
  | _ => none }
def cpxRingsRow : OpenClaim := { program := "ytokmommlabdcdaagreat", sum := "86f33fd2883fec67ce6ba66348dc79be379a384c7b46a9108b1922fd99d50a40", func := "surd/surdlaw5.CpxRings", spec := "cpxRings", inPlace := ["math.Float64bits", "math.Float64frombits"], unfollowed := true, recurses := true, apart := false }
def CpxRingsSaid : Prop := cpxRingsRow.holds Tryz.pinned (OpenSpec.ofChange cpxRingsSpec)

/-- ITS FALSE NEIGHBOUR: 'it returns false'. Refute it at one input. -/
def cpxRingsWrong : ChangeSpec := { name := "cpxRings", fn := fun _ => fun
  | [d1, d2] => { results := [.lit (.bool false)], args := [d1, d2] }
  | _ => none }
def CpxRingsWrongFalsely : Prop := cpxRingsRow.holds Tryz.pinned (OpenSpec.ofChange cpxRingsWrong)

/-- 'surdlaw5.CpxDivs': WHATEVER THE INPUT: true; the input reads as it did. -/
def cpxDivsSpec : ChangeSpec := { name := "cpxDivs", fn := fun _ => fun
  | [d1, d2] => { results := [.lit (.bool true)], args := [d1, d2] }
  | _ => none }
def cpxDivsRow : OpenClaim := { program := "ytokmommlabdcdaagreat", sum := "86f33fd2883fec67ce6ba66348dc79be379a384c7b46a9108b1922fd99d50a40", func := "surd/surdlaw5.CpxDivs", spec := "cpxDivs", inPlace := ["math.Float64bits", "math.Float64frombits"], unfollowed := true, recurses := true, apart := false }
def CpxDivsSaid : Prop := cpxDivsRow.holds Tryz.pinned (OpenSpec.ofChange cpxDivsSpec)

/-- ITS FALSE NEIGHBOUR: 'it returns false'. Refute it at one input. -/
def cpxDivsWrong : ChangeSpec := { name := "cpxDivs", fn := fun _ => fun
  | [d1, d2] => { results := [.lit (.bool false)], args := [d1, d2] }
  | _ => none }
def CpxDivsWrongFalsely : Prop := cpxDivsRow.holds Tryz.pinned (OpenSpec.ofChange cpxDivsWrong)

/-- 'surdlaw5.CpxSums': WHATEVER THE INPUT: true; the input reads as it did. -/
def cpxSumsSpec : ChangeSpec := { name := "cpxSums", fn := fun _ => fun
  | [d1, d2] => { results := [.lit (.bool true)], args := [d1, d2] }
  | _ => none }
def cpxSumsRow : OpenClaim := { program := "ytokmommlabdcdaagreat", sum := "86f33fd2883fec67ce6ba66348dc79be379a384c7b46a9108b1922fd99d50a40", func := "surd/surdlaw5.CpxSums", spec := "cpxSums", inPlace := ["math.Float64bits", "math.Float64frombits"], unfollowed := true, recurses := true, apart := false }
def CpxSumsSaid : Prop := cpxSumsRow.holds Tryz.pinned (OpenSpec.ofChange cpxSumsSpec)

/-- ITS FALSE NEIGHBOUR: 'it returns false'. Refute it at one input. -/
def cpxSumsWrong : ChangeSpec := { name := "cpxSums", fn := fun _ => fun
  | [d1, d2] => { results := [.lit (.bool false)], args := [d1, d2] }
  | _ => none }
def CpxSumsWrongFalsely : Prop := cpxSumsRow.holds Tryz.pinned (OpenSpec.ofChange cpxSumsWrong)

/-- 'surdlaw18.StepNewtons': WHATEVER THE INPUT: true; the input reads as it did. -/
def stepNewtonsSpec : ChangeSpec := { name := "stepNewtons", fn := fun _ => fun
  | [d1, d2] => { results := [.lit (.bool true)], args := [d1, d2] }
  | _ => none }
def stepNewtonsRow : OpenClaim := { program := "ytokmommlabdcdaagreat", sum := "86f33fd2883fec67ce6ba66348dc79be379a384c7b46a9108b1922fd99d50a40", func := "surd/surdlaw18.StepNewtons", spec := "stepNewtons", inPlace := ["math.Float64bits", "math.Float64frombits"], unfollowed := true, recurses := true, apart := false }
def StepNewtonsSaid : Prop := stepNewtonsRow.holds Tryz.pinned (OpenSpec.ofChange stepNewtonsSpec)

/-- ITS FALSE NEIGHBOUR: 'it returns false'. Refute it at one input. -/
def stepNewtonsWrong : ChangeSpec := { name := "stepNewtons", fn := fun _ => fun
  | [d1, d2] => { results := [.lit (.bool false)], args := [d1, d2] }
  | _ => none }
def StepNewtonsWrongFalsely : Prop := stepNewtonsRow.holds Tryz.pinned (OpenSpec.ofChange stepNewtonsWrong)

/-- 'surdlaw18.StepPoints': WHATEVER THE INPUT: true; the input reads as it did. -/
def stepPointsSpec : ChangeSpec := { name := "stepPoints", fn := fun _ => fun
  | [d1, d2, d3, d4] => { results := [.lit (.bool true)], args := [d1, d2, d3, d4] }
  | _ => none }
def stepPointsRow : OpenClaim := { program := "ytokmommlabdcdaagreat", sum := "86f33fd2883fec67ce6ba66348dc79be379a384c7b46a9108b1922fd99d50a40", func := "surd/surdlaw18.StepPoints", spec := "stepPoints", inPlace := ["math.Float64bits", "math.Float64frombits"], unfollowed := true, recurses := true, apart := false }
def StepPointsSaid : Prop := stepPointsRow.holds Tryz.pinned (OpenSpec.ofChange stepPointsSpec)

/-- ITS FALSE NEIGHBOUR: 'it returns false'. Refute it at one input. -/
def stepPointsWrong : ChangeSpec := { name := "stepPoints", fn := fun _ => fun
  | [d1, d2, d3, d4] => { results := [.lit (.bool false)], args := [d1, d2, d3, d4] }
  | _ => none }
def StepPointsWrongFalsely : Prop := stepPointsRow.holds Tryz.pinned (OpenSpec.ofChange stepPointsWrong)

/-- 'surdlaw18.StepNaN': WHATEVER THE INPUT: true; the input reads as it did. -/
def stepNaNSpec : ChangeSpec := { name := "stepNaN", fn := fun _ => fun
  | [d1, d2, d3, d4, d5] => { results := [.lit (.bool true)], args := [d1, d2, d3, d4, d5] }
  | _ => none }
def stepNaNRow : OpenClaim := { program := "ytokmommlabdcdaagreat", sum := "86f33fd2883fec67ce6ba66348dc79be379a384c7b46a9108b1922fd99d50a40", func := "surd/surdlaw18.StepNaN", spec := "stepNaN", inPlace := ["math.Float64bits", "math.Float64frombits"], unfollowed := true, recurses := true, apart := false }
def StepNaNSaid : Prop := stepNaNRow.holds Tryz.pinned (OpenSpec.ofChange stepNaNSpec)

/-- ITS FALSE NEIGHBOUR: 'it returns false'. Refute it at one input. -/
def stepNaNWrong : ChangeSpec := { name := "stepNaN", fn := fun _ => fun
  | [d1, d2, d3, d4, d5] => { results := [.lit (.bool false)], args := [d1, d2, d3, d4, d5] }
  | _ => none }
def StepNaNWrongFalsely : Prop := stepNaNRow.holds Tryz.pinned (OpenSpec.ofChange stepNaNWrong)

/-- 'surdlaw18.StepLine': WHATEVER THE INPUT: true; the input reads as it did. -/
def stepLineSpec : ChangeSpec := { name := "stepLine", fn := fun _ => fun
  | [d1, d2, d3, d4] => { results := [.lit (.bool true)], args := [d1, d2, d3, d4] }
  | _ => none }
def stepLineRow : OpenClaim := { program := "ytokmommlabdcdaagreat", sum := "86f33fd2883fec67ce6ba66348dc79be379a384c7b46a9108b1922fd99d50a40", func := "surd/surdlaw18.StepLine", spec := "stepLine", inPlace := ["math.Float64bits", "math.Float64frombits"], unfollowed := true, recurses := true, apart := false }
def StepLineSaid : Prop := stepLineRow.holds Tryz.pinned (OpenSpec.ofChange stepLineSpec)

/-- ITS FALSE NEIGHBOUR: 'it returns false'. Refute it at one input. -/
def stepLineWrong : ChangeSpec := { name := "stepLine", fn := fun _ => fun
  | [d1, d2, d3, d4] => { results := [.lit (.bool false)], args := [d1, d2, d3, d4] }
  | _ => none }
def StepLineWrongFalsely : Prop := stepLineRow.holds Tryz.pinned (OpenSpec.ofChange stepLineWrong)

/-- 'surdlaw18.StepSame': WHATEVER THE INPUT: true; the input reads as it did. -/
def stepSameSpec : ChangeSpec := { name := "stepSame", fn := fun _ => fun
  | [d1, d2, d3, d4] => { results := [.lit (.bool true)], args := [d1, d2, d3, d4] }
  | _ => none }
def stepSameRow : OpenClaim := { program := "ytokmommlabdcdaagreat", sum := "86f33fd2883fec67ce6ba66348dc79be379a384c7b46a9108b1922fd99d50a40", func := "surd/surdlaw18.StepSame", spec := "stepSame", inPlace := ["math.Float64bits", "math.Float64frombits"], unfollowed := true, recurses := true, apart := false }
def StepSameSaid : Prop := stepSameRow.holds Tryz.pinned (OpenSpec.ofChange stepSameSpec)

/-- ITS FALSE NEIGHBOUR: 'it returns false'. Refute it at one input. -/
def stepSameWrong : ChangeSpec := { name := "stepSame", fn := fun _ => fun
  | [d1, d2, d3, d4] => { results := [.lit (.bool false)], args := [d1, d2, d3, d4] }
  | _ => none }
def StepSameWrongFalsely : Prop := stepSameRow.holds Tryz.pinned (OpenSpec.ofChange stepSameWrong)

/-- 'surdlaw18.StepTurned': WHATEVER THE INPUT: true; the input reads as it did. -/
def stepTurnedSpec : ChangeSpec := { name := "stepTurned", fn := fun _ => fun
  | [d1, d2, d3, d4] => { results := [.lit (.bool true)], args := [d1, d2, d3, d4] }
  | _ => none }
def stepTurnedRow : OpenClaim := { program := "ytokmommlabdcdaagreat", sum := "86f33fd2883fec67ce6ba66348dc79be379a384c7b46a9108b1922fd99d50a40", func := "surd/surdlaw18.StepTurned", spec := "stepTurned", inPlace := ["math.Float64bits", "math.Float64frombits"], unfollowed := true, recurses := true, apart := false }
def StepTurnedSaid : Prop := stepTurnedRow.holds Tryz.pinned (OpenSpec.ofChange stepTurnedSpec)

/-- ITS FALSE NEIGHBOUR: 'it returns false'. Refute it at one input. -/
def stepTurnedWrong : ChangeSpec := { name := "stepTurned", fn := fun _ => fun
  | [d1, d2, d3, d4] => { results := [.lit (.bool false)], args := [d1, d2, d3, d4] }
  | _ => none }
def StepTurnedWrongFalsely : Prop := stepTurnedRow.holds Tryz.pinned (OpenSpec.ofChange stepTurnedWrong)

/- THE SECOND FORM. 'bulk': how many values and letters a reading holds, each counted each time it is reached (what is shared counts as often as it is met; a slice's spare places count too). A statement '..UptoSaid' is the law's where the arguments, and the package variables that the reading takes, are together of bulk at most 1048576: NARROWER than '..Said'. Prove '..Said' where nothing that the law and all that it calls make is longer than what came in: it says more and counts as full. Else prove '..UptoSaid'. A law counts once. -/
mutual
def uptoBulk {H : Type} : DataW H → Nat
  | .lit (.string bytes) => bytes.length + 1
  | .lit _ => 1
  | .nil => 1
  | .ptr d => uptoBulk d + 1
  | .slice elems spare => uptoBulkAll elems + uptoBulkAll spare + 1
  | .agg parts => uptoBulkAll parts + 1
  | .iface _ d => uptoBulk d + 1
  | .map entries => uptoBulkEntries entries + 1
  | .held _ => 1
def uptoBulkAll {H : Type} : List (DataW H) → Nat
  | [] => 0
  | d :: r => uptoBulk d + uptoBulkAll r
def uptoBulkEntries {H : Type} : List (Lit × DataW H) → Nat
  | [] => 0
  | x :: r => uptoBulkEntry x + uptoBulkEntries r
def uptoBulkEntry {H : Type} : Lit × DataW H → Nat
  | (.string bytes, d) => bytes.length + uptoBulk d + 1
  | (_, d) => uptoBulk d + 1
 end
def uptoSmall : (H : Type) → List (DataW H) → Bool := fun _ ds => decide (uptoBulkAll ds ≤ 1048576)
def OpenSpec.upto (s : _root_.Go.ChangeSpec) : _root_.Go.OpenSpec := { _root_.Go.OpenSpec.ofChange s with cond := some uptoSmall }

/-- 'surdlaw5.CpxRings', WHERE WHAT IT READS IS OF BULK AT MOST 1048576: true; the input reads as it did. -/
def cpxRingsUptoRow : OpenClaim := { program := "ytokmommlabdcdaagreat", sum := "86f33fd2883fec67ce6ba66348dc79be379a384c7b46a9108b1922fd99d50a40", func := "surd/surdlaw5.CpxRings", spec := "cpxRings", inPlace := ["math.Float64bits", "math.Float64frombits"], unfollowed := true, recurses := true, apart := false, narrowed := true }
def CpxRingsUptoSaid : Prop := cpxRingsUptoRow.holds Tryz.pinned (OpenSpec.upto cpxRingsSpec)

/-- 'surdlaw5.CpxDivs', WHERE WHAT IT READS IS OF BULK AT MOST 1048576: true; the input reads as it did. -/
def cpxDivsUptoRow : OpenClaim := { program := "ytokmommlabdcdaagreat", sum := "86f33fd2883fec67ce6ba66348dc79be379a384c7b46a9108b1922fd99d50a40", func := "surd/surdlaw5.CpxDivs", spec := "cpxDivs", inPlace := ["math.Float64bits", "math.Float64frombits"], unfollowed := true, recurses := true, apart := false, narrowed := true }
def CpxDivsUptoSaid : Prop := cpxDivsUptoRow.holds Tryz.pinned (OpenSpec.upto cpxDivsSpec)

/-- 'surdlaw5.CpxSums', WHERE WHAT IT READS IS OF BULK AT MOST 1048576: true; the input reads as it did. -/
def cpxSumsUptoRow : OpenClaim := { program := "ytokmommlabdcdaagreat", sum := "86f33fd2883fec67ce6ba66348dc79be379a384c7b46a9108b1922fd99d50a40", func := "surd/surdlaw5.CpxSums", spec := "cpxSums", inPlace := ["math.Float64bits", "math.Float64frombits"], unfollowed := true, recurses := true, apart := false, narrowed := true }
def CpxSumsUptoSaid : Prop := cpxSumsUptoRow.holds Tryz.pinned (OpenSpec.upto cpxSumsSpec)

/-- 'surdlaw18.StepNewtons', WHERE WHAT IT READS IS OF BULK AT MOST 1048576: true; the input reads as it did. -/
def stepNewtonsUptoRow : OpenClaim := { program := "ytokmommlabdcdaagreat", sum := "86f33fd2883fec67ce6ba66348dc79be379a384c7b46a9108b1922fd99d50a40", func := "surd/surdlaw18.StepNewtons", spec := "stepNewtons", inPlace := ["math.Float64bits", "math.Float64frombits"], unfollowed := true, recurses := true, apart := false, narrowed := true }
def StepNewtonsUptoSaid : Prop := stepNewtonsUptoRow.holds Tryz.pinned (OpenSpec.upto stepNewtonsSpec)

/-- 'surdlaw18.StepPoints', WHERE WHAT IT READS IS OF BULK AT MOST 1048576: true; the input reads as it did. -/
def stepPointsUptoRow : OpenClaim := { program := "ytokmommlabdcdaagreat", sum := "86f33fd2883fec67ce6ba66348dc79be379a384c7b46a9108b1922fd99d50a40", func := "surd/surdlaw18.StepPoints", spec := "stepPoints", inPlace := ["math.Float64bits", "math.Float64frombits"], unfollowed := true, recurses := true, apart := false, narrowed := true }
def StepPointsUptoSaid : Prop := stepPointsUptoRow.holds Tryz.pinned (OpenSpec.upto stepPointsSpec)

/-- 'surdlaw18.StepNaN', WHERE WHAT IT READS IS OF BULK AT MOST 1048576: true; the input reads as it did. -/
def stepNaNUptoRow : OpenClaim := { program := "ytokmommlabdcdaagreat", sum := "86f33fd2883fec67ce6ba66348dc79be379a384c7b46a9108b1922fd99d50a40", func := "surd/surdlaw18.StepNaN", spec := "stepNaN", inPlace := ["math.Float64bits", "math.Float64frombits"], unfollowed := true, recurses := true, apart := false, narrowed := true }
def StepNaNUptoSaid : Prop := stepNaNUptoRow.holds Tryz.pinned (OpenSpec.upto stepNaNSpec)

/-- 'surdlaw18.StepLine', WHERE WHAT IT READS IS OF BULK AT MOST 1048576: true; the input reads as it did. -/
def stepLineUptoRow : OpenClaim := { program := "ytokmommlabdcdaagreat", sum := "86f33fd2883fec67ce6ba66348dc79be379a384c7b46a9108b1922fd99d50a40", func := "surd/surdlaw18.StepLine", spec := "stepLine", inPlace := ["math.Float64bits", "math.Float64frombits"], unfollowed := true, recurses := true, apart := false, narrowed := true }
def StepLineUptoSaid : Prop := stepLineUptoRow.holds Tryz.pinned (OpenSpec.upto stepLineSpec)

/-- 'surdlaw18.StepSame', WHERE WHAT IT READS IS OF BULK AT MOST 1048576: true; the input reads as it did. -/
def stepSameUptoRow : OpenClaim := { program := "ytokmommlabdcdaagreat", sum := "86f33fd2883fec67ce6ba66348dc79be379a384c7b46a9108b1922fd99d50a40", func := "surd/surdlaw18.StepSame", spec := "stepSame", inPlace := ["math.Float64bits", "math.Float64frombits"], unfollowed := true, recurses := true, apart := false, narrowed := true }
def StepSameUptoSaid : Prop := stepSameUptoRow.holds Tryz.pinned (OpenSpec.upto stepSameSpec)

/-- 'surdlaw18.StepTurned', WHERE WHAT IT READS IS OF BULK AT MOST 1048576: true; the input reads as it did. -/
def stepTurnedUptoRow : OpenClaim := { program := "ytokmommlabdcdaagreat", sum := "86f33fd2883fec67ce6ba66348dc79be379a384c7b46a9108b1922fd99d50a40", func := "surd/surdlaw18.StepTurned", spec := "stepTurned", inPlace := ["math.Float64bits", "math.Float64frombits"], unfollowed := true, recurses := true, apart := false, narrowed := true }
def StepTurnedUptoSaid : Prop := stepTurnedUptoRow.holds Tryz.pinned (OpenSpec.upto stepTurnedSpec)

end Rows
end Go.Proofs.YtokmommlabdcdaaGreat
