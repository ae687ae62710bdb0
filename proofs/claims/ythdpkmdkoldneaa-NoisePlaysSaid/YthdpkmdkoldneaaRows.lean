/-
  No cell of these rows narrows 'for every input' (looked for: loops, veiled, ifaces, maps, wideKeys, modest, calm, conditions, laid).
  DERIVED. THE GIVEN ROWS OF THIS SEAT. 4 by the template 'for every input the law returns true; each argument reads behind the call as it read before'; 0 by the template 'total and deterministic' (their statements: YthdpkmdkoldneaaTotals.lean).
  GIVEN WITH THE SEED: the statements are not yours to turn. If you find one false, say at which input.
  Laid BY PROGRAM, IN A SANDBOX (cutbox-rows.mjs): the forced cells as the released guide's own fill.sh prints them over the translation 5aac4be92dda1f68… (all of the seat's roots in one cut). By AI agents, Wed Nov 11 2026. No macro, syntax, notation, axiom, sorry.
-/
import Derived.Test.YthdpkmdkoldneaaChecked
import GoSem.Claim
import GoSem.ClaimJoined
import GoSem.ClaimMapViews
import Derived.JoinedTies
import Derived.KernelRfl
namespace Go.Proofs.Ythdpkmdkoldneaa
/- THE CELL 'sum', in the pinned program and in every row, IS THE sha256 OF THE DUMP (.gsa) THAT YthdpkmdkoldneaaProg.lean LOADS. Nothing in Lean hashes anything: it is a label: what it is worth is what the hold of that sum in a sandbox is worth. -/
noncomputable def Try.pinned : Pinned := { name := "ythdpkmdkoldneaa", sum := "5aac4be92dda1f6809f73d8e70a00cdaceea493e43f68f45e8bbe186859656d2", checked := Try.checked }
namespace Rows
def none {H : Type} : Left H := { results := [], args := [] }

/-- 'lookoutlaw11.NoiseLeaps': WHATEVER THE INPUT: true; the input reads as it did. -/
def noiseLeapsSpec : ChangeSpec := { name := "noiseLeaps", fn := fun _ => fun
  | [d1, d2, d3, d4, d5] => { results := [.lit (.bool true)], args := [d1, d2, d3, d4, d5] }
  | _ => none }
def noiseLeapsRow : OpenClaim := { program := "ythdpkmdkoldneaa", sum := "5aac4be92dda1f6809f73d8e70a00cdaceea493e43f68f45e8bbe186859656d2", func := "lookout/lookoutlaw11.NoiseLeaps", spec := "noiseLeaps", inPlace := ["math.Float64bits", "math.Float64frombits"], apart := false }
def NoiseLeapsSaid : Prop := noiseLeapsRow.holds Try.pinned (OpenSpec.ofChange noiseLeapsSpec)

/-- ITS FALSE NEIGHBOUR: 'it returns false'. Refute it at one input. -/
def noiseLeapsWrong : ChangeSpec := { name := "noiseLeaps", fn := fun _ => fun
  | [d1, d2, d3, d4, d5] => { results := [.lit (.bool false)], args := [d1, d2, d3, d4, d5] }
  | _ => none }
def NoiseLeapsWrongFalsely : Prop := noiseLeapsRow.holds Try.pinned (OpenSpec.ofChange noiseLeapsWrong)

/-- 'lookoutlaw11.NoisePlays': WHATEVER THE INPUT: true; the input reads as it did. -/
def noisePlaysSpec : ChangeSpec := { name := "noisePlays", fn := fun _ => fun
  | [d1, d2, d3] => { results := [.lit (.bool true)], args := [d1, d2, d3] }
  | _ => none }
def noisePlaysRow : OpenClaim := { program := "ythdpkmdkoldneaa", sum := "5aac4be92dda1f6809f73d8e70a00cdaceea493e43f68f45e8bbe186859656d2", func := "lookout/lookoutlaw11.NoisePlays", spec := "noisePlays", inPlace := ["math.Float64bits", "math.Float64frombits"], apart := false }
def NoisePlaysSaid : Prop := noisePlaysRow.holds Try.pinned (OpenSpec.ofChange noisePlaysSpec)

/-- ITS FALSE NEIGHBOUR: 'it returns false'. Refute it at one input. -/
def noisePlaysWrong : ChangeSpec := { name := "noisePlays", fn := fun _ => fun
  | [d1, d2, d3] => { results := [.lit (.bool false)], args := [d1, d2, d3] }
  | _ => none }
def NoisePlaysWrongFalsely : Prop := noisePlaysRow.holds Try.pinned (OpenSpec.ofChange noisePlaysWrong)

/-- 'lookoutlaw11.NoiseKnown': WHATEVER THE INPUT: true; the input reads as it did. -/
def noiseKnownSpec : ChangeSpec := { name := "noiseKnown", fn := fun _ => fun
  | [] => { results := [.lit (.bool true)], args := [] }
  | _ => none }
def noiseKnownRow : OpenClaim := { program := "ythdpkmdkoldneaa", sum := "5aac4be92dda1f6809f73d8e70a00cdaceea493e43f68f45e8bbe186859656d2", func := "lookout/lookoutlaw11.NoiseKnown", spec := "noiseKnown", inPlace := ["math.Float64bits", "math.Float64frombits"], apart := false }
def NoiseKnownSaid : Prop := noiseKnownRow.holds Try.pinned (OpenSpec.ofChange noiseKnownSpec)

/-- ITS FALSE NEIGHBOUR: 'it returns false'. Refute it at one input. -/
def noiseKnownWrong : ChangeSpec := { name := "noiseKnown", fn := fun _ => fun
  | [] => { results := [.lit (.bool false)], args := [] }
  | _ => none }
def NoiseKnownWrongFalsely : Prop := noiseKnownRow.holds Try.pinned (OpenSpec.ofChange noiseKnownWrong)

/-- 'lookoutlaw11.NoiseRows': WHATEVER THE INPUT: true; the input reads as it did. -/
def noiseRowsSpec : ChangeSpec := { name := "noiseRows", fn := fun _ => fun
  | [d1, d2, d3, d4, d5] => { results := [.lit (.bool true)], args := [d1, d2, d3, d4, d5] }
  | _ => none }
def noiseRowsRow : OpenClaim := { program := "ythdpkmdkoldneaa", sum := "5aac4be92dda1f6809f73d8e70a00cdaceea493e43f68f45e8bbe186859656d2", func := "lookout/lookoutlaw11.NoiseRows", spec := "noiseRows", inPlace := ["math.Float64bits", "math.Float64frombits", "math.archFloor", "math.archTrunc"], apart := false }
def NoiseRowsSaid : Prop := noiseRowsRow.holds Try.pinned (OpenSpec.ofChange noiseRowsSpec)

/-- ITS FALSE NEIGHBOUR: 'it returns false'. Refute it at one input. -/
def noiseRowsWrong : ChangeSpec := { name := "noiseRows", fn := fun _ => fun
  | [d1, d2, d3, d4, d5] => { results := [.lit (.bool false)], args := [d1, d2, d3, d4, d5] }
  | _ => none }
def NoiseRowsWrongFalsely : Prop := noiseRowsRow.holds Try.pinned (OpenSpec.ofChange noiseRowsWrong)

/- THE SECOND FORM. 'bulk': how many values and letters a reading holds, each counted each time it is reached (what is shared counts as often as it is met; a slice's spare places count too). A statement '..UptoSaid' is the law's where the arguments, and the package variables that the reading takes, are together of bulk at most 1048576: NARROWER than '..Said'. Prove '..Said' where nothing that the law and all that it calls make is longer than what came in: it says more and counts as full. Else prove '..UptoSaid'. A law counts once. -/
mutual
def uptoBulk {H : Type} : DataW H → Nat
  | .lit (.string bytes) => bytes.length + 1
  | .lit _ => 1
  | .nil => 1
  | .ptr d => uptoBulk d + 1
  | .slice elems spare => uptoBulkAll elems + uptoBulkAll spare + 1
  | .agg parts => uptoBulkAll parts + 1
  | .iface _ d => uptoBulk d + 1
  | .map entries => uptoBulkEntries entries + 1
  | .held _ => 1
def uptoBulkAll {H : Type} : List (DataW H) → Nat
  | [] => 0
  | d :: r => uptoBulk d + uptoBulkAll r
def uptoBulkEntries {H : Type} : List (Lit × DataW H) → Nat
  | [] => 0
  | x :: r => uptoBulkEntry x + uptoBulkEntries r
def uptoBulkEntry {H : Type} : Lit × DataW H → Nat
  | (.string bytes, d) => bytes.length + uptoBulk d + 1
  | (_, d) => uptoBulk d + 1
 end
def uptoSmall : (H : Type) → List (DataW H) → Bool := fun _ ds => decide (uptoBulkAll ds ≤ 1048576)
def OpenSpec.upto (s : _root_.Go.ChangeSpec) : _root_.Go.OpenSpec := { _root_.Go.OpenSpec.ofChange s with cond := some uptoSmall }

/-- 'lookoutlaw11.NoiseLeaps', WHERE WHAT IT READS IS OF BULK AT MOST 1048576: true; the input reads as it did. -/
def noiseLeapsUptoRow : OpenClaim := { program := "ythdpkmdkoldneaa", sum := "5aac4be92dda1f6809f73d8e70a00cdaceea493e43f68f45e8bbe186859656d2", func := "lookout/lookoutlaw11.NoiseLeaps", spec := "noiseLeaps", inPlace := ["math.Float64bits", "math.Float64frombits"], apart := false, narrowed := true }
def NoiseLeapsUptoSaid : Prop := noiseLeapsUptoRow.holds Try.pinned (OpenSpec.upto noiseLeapsSpec)

/-- 'lookoutlaw11.NoisePlays', WHERE WHAT IT READS IS OF BULK AT MOST 1048576: true; the input reads as it did. -/
def noisePlaysUptoRow : OpenClaim := { program := "ythdpkmdkoldneaa", sum := "5aac4be92dda1f6809f73d8e70a00cdaceea493e43f68f45e8bbe186859656d2", func := "lookout/lookoutlaw11.NoisePlays", spec := "noisePlays", inPlace := ["math.Float64bits", "math.Float64frombits"], apart := false, narrowed := true }
def NoisePlaysUptoSaid : Prop := noisePlaysUptoRow.holds Try.pinned (OpenSpec.upto noisePlaysSpec)

/-- 'lookoutlaw11.NoiseKnown', WHERE WHAT IT READS IS OF BULK AT MOST 1048576: true; the input reads as it did. -/
def noiseKnownUptoRow : OpenClaim := { program := "ythdpkmdkoldneaa", sum := "5aac4be92dda1f6809f73d8e70a00cdaceea493e43f68f45e8bbe186859656d2", func := "lookout/lookoutlaw11.NoiseKnown", spec := "noiseKnown", inPlace := ["math.Float64bits", "math.Float64frombits"], apart := false, narrowed := true }
def NoiseKnownUptoSaid : Prop := noiseKnownUptoRow.holds Try.pinned (OpenSpec.upto noiseKnownSpec)

/-- 'lookoutlaw11.NoiseRows', WHERE WHAT IT READS IS OF BULK AT MOST 1048576: true; the input reads as it did. -/
def noiseRowsUptoRow : OpenClaim := { program := "ythdpkmdkoldneaa", sum := "5aac4be92dda1f6809f73d8e70a00cdaceea493e43f68f45e8bbe186859656d2", func := "lookout/lookoutlaw11.NoiseRows", spec := "noiseRows", inPlace := ["math.Float64bits", "math.Float64frombits", "math.archFloor", "math.archTrunc"], apart := false, narrowed := true }
def NoiseRowsUptoSaid : Prop := noiseRowsUptoRow.holds Try.pinned (OpenSpec.upto noiseRowsSpec)

end Rows
end Go.Proofs.Ythdpkmdkoldneaa
