/-
  No cell of these rows narrows 'for every input' (looked for: loops, veiled, ifaces, maps, wideKeys, modest, calm, conditions, laid).
  DERIVED. THE GIVEN ROWS OF THIS SEAT. 6 by the template 'for every input the law returns true; each argument reads behind the call as it read before'; 0 by the template 'total and deterministic' (their statements: YtakkdkgbkedliaaTotals.lean).
  GIVEN WITH THE SEED: the statements are not yours to turn. If you find one false, say at which input.
  Laid BY PROGRAM, IN A SANDBOX (cutbox-rows.mjs): the forced cells as the released guide's own fill.sh prints them over the translation 5241b5d94b9cc56d… (all of the seat's roots in one cut). By AI agents, Wed Nov 11 2026. No macro, syntax, notation, axiom, sorry.
-/
import Derived.Test.YtakkdkgbkedliaaChecked
import GoSem.Claim
import GoSem.ClaimJoined
import GoSem.ClaimMapViews
import Derived.JoinedTies
import Derived.KernelRfl
namespace Go.Proofs.Ytakkdkgbkedliaa
/- THE CELL 'sum', in the pinned program and in every row, IS THE sha256 OF THE DUMP (.gsa) THAT YtakkdkgbkedliaaProg.lean LOADS. Nothing in Lean hashes anything: it is a label: what it is worth is what the hold of that sum in a sandbox is worth. -/
noncomputable def Try.pinned : Pinned := { name := "ytakkdkgbkedliaa", sum := "5241b5d94b9cc56d420a827642f229830ba64ba23c6e3f1fecfdb4d3f5c19a47", checked := Try.checked }
namespace Rows
def none {H : Type} : Left H := { results := [], args := [] }

/-- 'lookoutlaw08.GateCells': WHATEVER THE INPUT: true; the input reads as it did. -/
def gateCellsSpec : ChangeSpec := { name := "gateCells", fn := fun _ => fun
  | [d1, d2, d3, d4] => { results := [.lit (.bool true)], args := [d1, d2, d3, d4] }
  | _ => none }
def gateCellsRow : OpenClaim := { program := "ytakkdkgbkedliaa", sum := "5241b5d94b9cc56d420a827642f229830ba64ba23c6e3f1fecfdb4d3f5c19a47", func := "lookout/lookoutlaw08.GateCells", spec := "gateCells", inPlace := ["math.archFloor", "math.Float64bits", "math.Float64frombits", "math.archTrunc"], apart := false }
def GateCellsSaid : Prop := gateCellsRow.holds Try.pinned (OpenSpec.ofChange gateCellsSpec)

/-- ITS FALSE NEIGHBOUR: 'it returns false'. Refute it at one input. -/
def gateCellsWrong : ChangeSpec := { name := "gateCells", fn := fun _ => fun
  | [d1, d2, d3, d4] => { results := [.lit (.bool false)], args := [d1, d2, d3, d4] }
  | _ => none }
def GateCellsWrongFalsely : Prop := gateCellsRow.holds Try.pinned (OpenSpec.ofChange gateCellsWrong)

/-- 'lookoutlaw08.GateSigns': WHATEVER THE INPUT: true; the input reads as it did. -/
def gateSignsSpec : ChangeSpec := { name := "gateSigns", fn := fun _ => fun
  | [d1, d2, d3] => { results := [.lit (.bool true)], args := [d1, d2, d3] }
  | _ => none }
def gateSignsRow : OpenClaim := { program := "ytakkdkgbkedliaa", sum := "5241b5d94b9cc56d420a827642f229830ba64ba23c6e3f1fecfdb4d3f5c19a47", func := "lookout/lookoutlaw08.GateSigns", spec := "gateSigns", inPlace := ["math.archFloor", "math.Float64bits", "math.Float64frombits", "math.archTrunc"], apart := false }
def GateSignsSaid : Prop := gateSignsRow.holds Try.pinned (OpenSpec.ofChange gateSignsSpec)

/-- ITS FALSE NEIGHBOUR: 'it returns false'. Refute it at one input. -/
def gateSignsWrong : ChangeSpec := { name := "gateSigns", fn := fun _ => fun
  | [d1, d2, d3] => { results := [.lit (.bool false)], args := [d1, d2, d3] }
  | _ => none }
def GateSignsWrongFalsely : Prop := gateSignsRow.holds Try.pinned (OpenSpec.ofChange gateSignsWrong)

/-- 'lookoutlaw08.GateNear': WHATEVER THE INPUT: true; the input reads as it did. -/
def gateNearSpec : ChangeSpec := { name := "gateNear", fn := fun _ => fun
  | [d1, d2] => { results := [.lit (.bool true)], args := [d1, d2] }
  | _ => none }
def gateNearRow : OpenClaim := { program := "ytakkdkgbkedliaa", sum := "5241b5d94b9cc56d420a827642f229830ba64ba23c6e3f1fecfdb4d3f5c19a47", func := "lookout/lookoutlaw08.GateNear", spec := "gateNear", inPlace := ["math.archFloor", "math.Float64bits", "math.Float64frombits", "math.archTrunc"], apart := false }
def GateNearSaid : Prop := gateNearRow.holds Try.pinned (OpenSpec.ofChange gateNearSpec)

/-- ITS FALSE NEIGHBOUR: 'it returns false'. Refute it at one input. -/
def gateNearWrong : ChangeSpec := { name := "gateNear", fn := fun _ => fun
  | [d1, d2] => { results := [.lit (.bool false)], args := [d1, d2] }
  | _ => none }
def GateNearWrongFalsely : Prop := gateNearRow.holds Try.pinned (OpenSpec.ofChange gateNearWrong)

/-- 'lookoutlaw08.GateBack': WHATEVER THE INPUT: true; the input reads as it did. -/
def gateBackSpec : ChangeSpec := { name := "gateBack", fn := fun _ => fun
  | [d1, d2, d3, d4, d5, d6, d7] => { results := [.lit (.bool true)], args := [d1, d2, d3, d4, d5, d6, d7] }
  | _ => none }
def gateBackRow : OpenClaim := { program := "ytakkdkgbkedliaa", sum := "5241b5d94b9cc56d420a827642f229830ba64ba23c6e3f1fecfdb4d3f5c19a47", func := "lookout/lookoutlaw08.GateBack", spec := "gateBack", inPlace := ["math.archFloor", "math.Float64bits", "math.Float64frombits", "math.archTrunc"], apart := false }
def GateBackSaid : Prop := gateBackRow.holds Try.pinned (OpenSpec.ofChange gateBackSpec)

/-- ITS FALSE NEIGHBOUR: 'it returns false'. Refute it at one input. -/
def gateBackWrong : ChangeSpec := { name := "gateBack", fn := fun _ => fun
  | [d1, d2, d3, d4, d5, d6, d7] => { results := [.lit (.bool false)], args := [d1, d2, d3, d4, d5, d6, d7] }
  | _ => none }
def GateBackWrongFalsely : Prop := gateBackRow.holds Try.pinned (OpenSpec.ofChange gateBackWrong)

/-- 'lookoutlaw08.GateBins': WHATEVER THE INPUT: true; the input reads as it did. -/
def gateBinsSpec : ChangeSpec := { name := "gateBins", fn := fun _ => fun
  | [d1, d2, d3] => { results := [.lit (.bool true)], args := [d1, d2, d3] }
  | _ => none }
def gateBinsRow : OpenClaim := { program := "ytakkdkgbkedliaa", sum := "5241b5d94b9cc56d420a827642f229830ba64ba23c6e3f1fecfdb4d3f5c19a47", func := "lookout/lookoutlaw08.GateBins", spec := "gateBins", inPlace := ["math.Float64frombits", "math.archTrunc", "math.Float64bits", "math.archFloor"], apart := false }
def GateBinsSaid : Prop := gateBinsRow.holds Try.pinned (OpenSpec.ofChange gateBinsSpec)

/-- ITS FALSE NEIGHBOUR: 'it returns false'. Refute it at one input. -/
def gateBinsWrong : ChangeSpec := { name := "gateBins", fn := fun _ => fun
  | [d1, d2, d3] => { results := [.lit (.bool false)], args := [d1, d2, d3] }
  | _ => none }
def GateBinsWrongFalsely : Prop := gateBinsRow.holds Try.pinned (OpenSpec.ofChange gateBinsWrong)

/-- 'lookoutlaw08.GateKnown': WHATEVER THE INPUT: true; the input reads as it did. -/
def gateKnownSpec : ChangeSpec := { name := "gateKnown", fn := fun _ => fun
  | [] => { results := [.lit (.bool true)], args := [] }
  | _ => none }
def gateKnownRow : OpenClaim := { program := "ytakkdkgbkedliaa", sum := "5241b5d94b9cc56d420a827642f229830ba64ba23c6e3f1fecfdb4d3f5c19a47", func := "lookout/lookoutlaw08.GateKnown", spec := "gateKnown", inPlace := ["math.archFloor", "math.Float64bits", "math.Float64frombits", "math.archTrunc"], apart := false }
def GateKnownSaid : Prop := gateKnownRow.holds Try.pinned (OpenSpec.ofChange gateKnownSpec)

/-- ITS FALSE NEIGHBOUR: 'it returns false'. Refute it at one input. -/
def gateKnownWrong : ChangeSpec := { name := "gateKnown", fn := fun _ => fun
  | [] => { results := [.lit (.bool false)], args := [] }
  | _ => none }
def GateKnownWrongFalsely : Prop := gateKnownRow.holds Try.pinned (OpenSpec.ofChange gateKnownWrong)

/- THE SECOND FORM. 'bulk': how many values and letters a reading holds, each counted each time it is reached (what is shared counts as often as it is met; a slice's spare places count too). A statement '..UptoSaid' is the law's where the arguments, and the package variables that the reading takes, are together of bulk at most 1048576: NARROWER than '..Said'. Prove '..Said' where nothing that the law and all that it calls make is longer than what came in: it says more and counts as full. Else prove '..UptoSaid'. A law counts once. -/
mutual
def uptoBulk {H : Type} : DataW H → Nat
  | .lit (.string bytes) => bytes.length + 1
  | .lit _ => 1
  | .nil => 1
  | .ptr d => uptoBulk d + 1
  | .slice elems spare => uptoBulkAll elems + uptoBulkAll spare + 1
  | .agg parts => uptoBulkAll parts + 1
  | .iface _ d => uptoBulk d + 1
  | .map entries => uptoBulkEntries entries + 1
  | .held _ => 1
def uptoBulkAll {H : Type} : List (DataW H) → Nat
  | [] => 0
  | d :: r => uptoBulk d + uptoBulkAll r
def uptoBulkEntries {H : Type} : List (Lit × DataW H) → Nat
  | [] => 0
  | x :: r => uptoBulkEntry x + uptoBulkEntries r
def uptoBulkEntry {H : Type} : Lit × DataW H → Nat
  | (.string bytes, d) => bytes.length + uptoBulk d + 1
  | (_, d) => uptoBulk d + 1
 end
def uptoSmall : (H : Type) → List (DataW H) → Bool := fun _ ds => decide (uptoBulkAll ds ≤ 1048576)
def OpenSpec.upto (s : _root_.Go.ChangeSpec) : _root_.Go.OpenSpec := { _root_.Go.OpenSpec.ofChange s with cond := some uptoSmall }

/-- 'lookoutlaw08.GateCells', WHERE WHAT IT READS IS OF BULK AT MOST 1048576: true; the input reads as it did. -/
def gateCellsUptoRow : OpenClaim := { program := "ytakkdkgbkedliaa", sum := "5241b5d94b9cc56d420a827642f229830ba64ba23c6e3f1fecfdb4d3f5c19a47", func := "lookout/lookoutlaw08.GateCells", spec := "gateCells", inPlace := ["math.archFloor", "math.Float64bits", "math.Float64frombits", "math.archTrunc"], apart := false, narrowed := true }
def GateCellsUptoSaid : Prop := gateCellsUptoRow.holds Try.pinned (OpenSpec.upto gateCellsSpec)

/-- 'lookoutlaw08.GateSigns', WHERE WHAT IT READS IS OF BULK AT MOST 1048576: true; the input reads as it did. -/
def gateSignsUptoRow : OpenClaim := { program := "ytakkdkgbkedliaa", sum := "5241b5d94b9cc56d420a827642f229830ba64ba23c6e3f1fecfdb4d3f5c19a47", func := "lookout/lookoutlaw08.GateSigns", spec := "gateSigns", inPlace := ["math.archFloor", "math.Float64bits", "math.Float64frombits", "math.archTrunc"], apart := false, narrowed := true }
def GateSignsUptoSaid : Prop := gateSignsUptoRow.holds Try.pinned (OpenSpec.upto gateSignsSpec)

/-- 'lookoutlaw08.GateNear', WHERE WHAT IT READS IS OF BULK AT MOST 1048576: true; the input reads as it did. -/
def gateNearUptoRow : OpenClaim := { program := "ytakkdkgbkedliaa", sum := "5241b5d94b9cc56d420a827642f229830ba64ba23c6e3f1fecfdb4d3f5c19a47", func := "lookout/lookoutlaw08.GateNear", spec := "gateNear", inPlace := ["math.archFloor", "math.Float64bits", "math.Float64frombits", "math.archTrunc"], apart := false, narrowed := true }
def GateNearUptoSaid : Prop := gateNearUptoRow.holds Try.pinned (OpenSpec.upto gateNearSpec)

/-- 'lookoutlaw08.GateBack', WHERE WHAT IT READS IS OF BULK AT MOST 1048576: true; the input reads as it did. -/
def gateBackUptoRow : OpenClaim := { program := "ytakkdkgbkedliaa", sum := "5241b5d94b9cc56d420a827642f229830ba64ba23c6e3f1fecfdb4d3f5c19a47", func := "lookout/lookoutlaw08.GateBack", spec := "gateBack", inPlace := ["math.archFloor", "math.Float64bits", "math.Float64frombits", "math.archTrunc"], apart := false, narrowed := true }
def GateBackUptoSaid : Prop := gateBackUptoRow.holds Try.pinned (OpenSpec.upto gateBackSpec)

/-- 'lookoutlaw08.GateBins', WHERE WHAT IT READS IS OF BULK AT MOST 1048576: true; the input reads as it did. -/
def gateBinsUptoRow : OpenClaim := { program := "ytakkdkgbkedliaa", sum := "5241b5d94b9cc56d420a827642f229830ba64ba23c6e3f1fecfdb4d3f5c19a47", func := "lookout/lookoutlaw08.GateBins", spec := "gateBins", inPlace := ["math.Float64frombits", "math.archTrunc", "math.Float64bits", "math.archFloor"], apart := false, narrowed := true }
def GateBinsUptoSaid : Prop := gateBinsUptoRow.holds Try.pinned (OpenSpec.upto gateBinsSpec)

/-- 'lookoutlaw08.GateKnown', WHERE WHAT IT READS IS OF BULK AT MOST 1048576: true; the input reads as it did. -/
def gateKnownUptoRow : OpenClaim := { program := "ytakkdkgbkedliaa", sum := "5241b5d94b9cc56d420a827642f229830ba64ba23c6e3f1fecfdb4d3f5c19a47", func := "lookout/lookoutlaw08.GateKnown", spec := "gateKnown", inPlace := ["math.archFloor", "math.Float64bits", "math.Float64frombits", "math.archTrunc"], apart := false, narrowed := true }
def GateKnownUptoSaid : Prop := gateKnownUptoRow.holds Try.pinned (OpenSpec.upto gateKnownSpec)

end Rows
end Go.Proofs.Ytakkdkgbkedliaa
