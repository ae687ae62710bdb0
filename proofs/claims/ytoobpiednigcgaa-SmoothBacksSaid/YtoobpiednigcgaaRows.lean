/-
  No cell of these rows narrows 'for every input' (looked for: loops, veiled, ifaces, maps, wideKeys, modest, calm, conditions, laid).
  DERIVED. THE GIVEN ROWS OF THIS SEAT. 6 by the template 'for every input the law returns true; each argument reads behind the call as it read before'; 0 by the template 'total and deterministic' (their statements: YtoobpiednigcgaaTotals.lean).
  GIVEN WITH THE SEED: the statements are not yours to turn. If you find one false, say at which input.
  Laid BY PROGRAM, IN A SANDBOX (cutbox-rows.mjs): the forced cells as the released guide's own fill.sh prints them over the translation 5680a6a3772ebd41… (all of the seat's roots in one cut). By AI agents, Wed Nov 11 2026. No macro, syntax, notation, axiom, sorry.
-/
import Derived.Test.YtoobpiednigcgaaChecked
import GoSem.Claim
import GoSem.ClaimJoined
import GoSem.ClaimMapViews
import Derived.JoinedTies
import Derived.KernelRfl
namespace Go.Proofs.Ytoobpiednigcgaa
/- THE CELL 'sum', in the pinned program and in every row, IS THE sha256 OF THE DUMP (.gsa) THAT YtoobpiednigcgaaProg.lean LOADS. Nothing in Lean hashes anything: it is a label: what it is worth is what the hold of that sum in a sandbox is worth. -/
noncomputable def Try.pinned : Pinned := { name := "ytoobpiednigcgaa", sum := "5680a6a3772ebd4181a8431cd86e2ab0df4e06a3e5ff493175b31db23f12ebba", checked := Try.checked }
namespace Rows
def none {H : Type} : Left H := { results := [], args := [] }

/-- 'lookoutlaw20.SmoothBacks': WHATEVER THE INPUT: true; the input reads as it did. -/
def smoothBacksSpec : ChangeSpec := { name := "smoothBacks", fn := fun _ => fun
  | [d1, d2, d3] => { results := [.lit (.bool true)], args := [d1, d2, d3] }
  | _ => none }
def smoothBacksRow : OpenClaim := { program := "ytoobpiednigcgaa", sum := "5680a6a3772ebd4181a8431cd86e2ab0df4e06a3e5ff493175b31db23f12ebba", func := "lookout/lookoutlaw20.SmoothBacks", spec := "smoothBacks", inPlace := ["math.Float64bits", "math.Float64frombits"], unfollowed := true, recurses := true, apart := false }
def SmoothBacksSaid : Prop := smoothBacksRow.holds Try.pinned (OpenSpec.ofChange smoothBacksSpec)

/-- ITS FALSE NEIGHBOUR: 'it returns false'. Refute it at one input. -/
def smoothBacksWrong : ChangeSpec := { name := "smoothBacks", fn := fun _ => fun
  | [d1, d2, d3] => { results := [.lit (.bool false)], args := [d1, d2, d3] }
  | _ => none }
def SmoothBacksWrongFalsely : Prop := smoothBacksRow.holds Try.pinned (OpenSpec.ofChange smoothBacksWrong)

/-- 'lookoutlaw20.SmoothLines': WHATEVER THE INPUT: true; the input reads as it did. -/
def smoothLinesSpec : ChangeSpec := { name := "smoothLines", fn := fun _ => fun
  | [d1, d2, d3] => { results := [.lit (.bool true)], args := [d1, d2, d3] }
  | _ => none }
def smoothLinesRow : OpenClaim := { program := "ytoobpiednigcgaa", sum := "5680a6a3772ebd4181a8431cd86e2ab0df4e06a3e5ff493175b31db23f12ebba", func := "lookout/lookoutlaw20.SmoothLines", spec := "smoothLines", inPlace := ["math.Float64bits", "math.Float64frombits"], unfollowed := true, recurses := true, apart := false }
def SmoothLinesSaid : Prop := smoothLinesRow.holds Try.pinned (OpenSpec.ofChange smoothLinesSpec)

/-- ITS FALSE NEIGHBOUR: 'it returns false'. Refute it at one input. -/
def smoothLinesWrong : ChangeSpec := { name := "smoothLines", fn := fun _ => fun
  | [d1, d2, d3] => { results := [.lit (.bool false)], args := [d1, d2, d3] }
  | _ => none }
def SmoothLinesWrongFalsely : Prop := smoothLinesRow.holds Try.pinned (OpenSpec.ofChange smoothLinesWrong)

/-- 'lookoutlaw20.SmoothStraight': WHATEVER THE INPUT: true; the input reads as it did. -/
def smoothStraightSpec : ChangeSpec := { name := "smoothStraight", fn := fun _ => fun
  | [d1, d2, d3, d4, d5] => { results := [.lit (.bool true)], args := [d1, d2, d3, d4, d5] }
  | _ => none }
def smoothStraightRow : OpenClaim := { program := "ytoobpiednigcgaa", sum := "5680a6a3772ebd4181a8431cd86e2ab0df4e06a3e5ff493175b31db23f12ebba", func := "lookout/lookoutlaw20.SmoothStraight", spec := "smoothStraight", inPlace := ["math.Float64bits", "math.Float64frombits"], unfollowed := true, recurses := true, apart := false }
def SmoothStraightSaid : Prop := smoothStraightRow.holds Try.pinned (OpenSpec.ofChange smoothStraightSpec)

/-- ITS FALSE NEIGHBOUR: 'it returns false'. Refute it at one input. -/
def smoothStraightWrong : ChangeSpec := { name := "smoothStraight", fn := fun _ => fun
  | [d1, d2, d3, d4, d5] => { results := [.lit (.bool false)], args := [d1, d2, d3, d4, d5] }
  | _ => none }
def SmoothStraightWrongFalsely : Prop := smoothStraightRow.holds Try.pinned (OpenSpec.ofChange smoothStraightWrong)

/-- 'lookoutlaw20.SmoothTurned': WHATEVER THE INPUT: true; the input reads as it did. -/
def smoothTurnedSpec : ChangeSpec := { name := "smoothTurned", fn := fun _ => fun
  | [d1, d2, d3, d4, d5, d6, d7] => { results := [.lit (.bool true)], args := [d1, d2, d3, d4, d5, d6, d7] }
  | _ => none }
def smoothTurnedRow : OpenClaim := { program := "ytoobpiednigcgaa", sum := "5680a6a3772ebd4181a8431cd86e2ab0df4e06a3e5ff493175b31db23f12ebba", func := "lookout/lookoutlaw20.SmoothTurned", spec := "smoothTurned", inPlace := ["math.Float64bits", "math.Float64frombits"], unfollowed := true, recurses := true, apart := false }
def SmoothTurnedSaid : Prop := smoothTurnedRow.holds Try.pinned (OpenSpec.ofChange smoothTurnedSpec)

/-- ITS FALSE NEIGHBOUR: 'it returns false'. Refute it at one input. -/
def smoothTurnedWrong : ChangeSpec := { name := "smoothTurned", fn := fun _ => fun
  | [d1, d2, d3, d4, d5, d6, d7] => { results := [.lit (.bool false)], args := [d1, d2, d3, d4, d5, d6, d7] }
  | _ => none }
def SmoothTurnedWrongFalsely : Prop := smoothTurnedRow.holds Try.pinned (OpenSpec.ofChange smoothTurnedWrong)

/-- 'lookoutlaw20.SmoothKnown': WHATEVER THE INPUT: true; the input reads as it did. -/
def smoothKnownSpec : ChangeSpec := { name := "smoothKnown", fn := fun _ => fun
  | [] => { results := [.lit (.bool true)], args := [] }
  | _ => none }
def smoothKnownRow : OpenClaim := { program := "ytoobpiednigcgaa", sum := "5680a6a3772ebd4181a8431cd86e2ab0df4e06a3e5ff493175b31db23f12ebba", func := "lookout/lookoutlaw20.SmoothKnown", spec := "smoothKnown", inPlace := ["math.Float64bits", "math.Float64frombits"], unfollowed := true, recurses := true, apart := false }
def SmoothKnownSaid : Prop := smoothKnownRow.holds Try.pinned (OpenSpec.ofChange smoothKnownSpec)

/-- ITS FALSE NEIGHBOUR: 'it returns false'. Refute it at one input. -/
def smoothKnownWrong : ChangeSpec := { name := "smoothKnown", fn := fun _ => fun
  | [] => { results := [.lit (.bool false)], args := [] }
  | _ => none }
def SmoothKnownWrongFalsely : Prop := smoothKnownRow.holds Try.pinned (OpenSpec.ofChange smoothKnownWrong)

/-- 'lookoutlaw20.SmoothKnows': WHATEVER THE INPUT: true; the input reads as it did. -/
def smoothKnowsSpec : ChangeSpec := { name := "smoothKnows", fn := fun _ => fun
  | [d1, d2, d3, d4, d5] => { results := [.lit (.bool true)], args := [d1, d2, d3, d4, d5] }
  | _ => none }
def smoothKnowsRow : OpenClaim := { program := "ytoobpiednigcgaa", sum := "5680a6a3772ebd4181a8431cd86e2ab0df4e06a3e5ff493175b31db23f12ebba", func := "lookout/lookoutlaw20.SmoothKnows", spec := "smoothKnows", inPlace := ["math.Float64bits", "math.Float64frombits"], unfollowed := true, recurses := true, apart := false }
def SmoothKnowsSaid : Prop := smoothKnowsRow.holds Try.pinned (OpenSpec.ofChange smoothKnowsSpec)

/-- ITS FALSE NEIGHBOUR: 'it returns false'. Refute it at one input. -/
def smoothKnowsWrong : ChangeSpec := { name := "smoothKnows", fn := fun _ => fun
  | [d1, d2, d3, d4, d5] => { results := [.lit (.bool false)], args := [d1, d2, d3, d4, d5] }
  | _ => none }
def SmoothKnowsWrongFalsely : Prop := smoothKnowsRow.holds Try.pinned (OpenSpec.ofChange smoothKnowsWrong)

/- THE SECOND FORM. 'bulk': how many values and letters a reading holds, each counted each time it is reached (what is shared counts as often as it is met; a slice's spare places count too). A statement '..UptoSaid' is the law's where the arguments, and the package variables that the reading takes, are together of bulk at most 1048576: NARROWER than '..Said'. Prove '..Said' where nothing that the law and all that it calls make is longer than what came in: it says more and counts as full. Else prove '..UptoSaid'. A law counts once. -/
mutual
def uptoBulk {H : Type} : DataW H → Nat
  | .lit (.string bytes) => bytes.length + 1
  | .lit _ => 1
  | .nil => 1
  | .ptr d => uptoBulk d + 1
  | .slice elems spare => uptoBulkAll elems + uptoBulkAll spare + 1
  | .agg parts => uptoBulkAll parts + 1
  | .iface _ d => uptoBulk d + 1
  | .map entries => uptoBulkEntries entries + 1
  | .held _ => 1
def uptoBulkAll {H : Type} : List (DataW H) → Nat
  | [] => 0
  | d :: r => uptoBulk d + uptoBulkAll r
def uptoBulkEntries {H : Type} : List (Lit × DataW H) → Nat
  | [] => 0
  | x :: r => uptoBulkEntry x + uptoBulkEntries r
def uptoBulkEntry {H : Type} : Lit × DataW H → Nat
  | (.string bytes, d) => bytes.length + uptoBulk d + 1
  | (_, d) => uptoBulk d + 1
 end
def uptoSmall : (H : Type) → List (DataW H) → Bool := fun _ ds => decide (uptoBulkAll ds ≤ 1048576)
def OpenSpec.upto (s : _root_.Go.ChangeSpec) : _root_.Go.OpenSpec := { _root_.Go.OpenSpec.ofChange s with cond := some uptoSmall }

/-- 'lookoutlaw20.SmoothBacks', WHERE WHAT IT READS IS OF BULK AT MOST 1048576: true; the input reads as it did. -/
def smoothBacksUptoRow : OpenClaim := { program := "ytoobpiednigcgaa", sum := "5680a6a3772ebd4181a8431cd86e2ab0df4e06a3e5ff493175b31db23f12ebba", func := "lookout/lookoutlaw20.SmoothBacks", spec := "smoothBacks", inPlace := ["math.Float64bits", "math.Float64frombits"], unfollowed := true, recurses := true, apart := false, narrowed := true }
def SmoothBacksUptoSaid : Prop := smoothBacksUptoRow.holds Try.pinned (OpenSpec.upto smoothBacksSpec)

/-- 'lookoutlaw20.SmoothLines', WHERE WHAT IT READS IS OF BULK AT MOST 1048576: true; the input reads as it did. -/
def smoothLinesUptoRow : OpenClaim := { program := "ytoobpiednigcgaa", sum := "5680a6a3772ebd4181a8431cd86e2ab0df4e06a3e5ff493175b31db23f12ebba", func := "lookout/lookoutlaw20.SmoothLines", spec := "smoothLines", inPlace := ["math.Float64bits", "math.Float64frombits"], unfollowed := true, recurses := true, apart := false, narrowed := true }
def SmoothLinesUptoSaid : Prop := smoothLinesUptoRow.holds Try.pinned (OpenSpec.upto smoothLinesSpec)

/-- 'lookoutlaw20.SmoothStraight', WHERE WHAT IT READS IS OF BULK AT MOST 1048576: true; the input reads as it did. -/
def smoothStraightUptoRow : OpenClaim := { program := "ytoobpiednigcgaa", sum := "5680a6a3772ebd4181a8431cd86e2ab0df4e06a3e5ff493175b31db23f12ebba", func := "lookout/lookoutlaw20.SmoothStraight", spec := "smoothStraight", inPlace := ["math.Float64bits", "math.Float64frombits"], unfollowed := true, recurses := true, apart := false, narrowed := true }
def SmoothStraightUptoSaid : Prop := smoothStraightUptoRow.holds Try.pinned (OpenSpec.upto smoothStraightSpec)

/-- 'lookoutlaw20.SmoothTurned', WHERE WHAT IT READS IS OF BULK AT MOST 1048576: true; the input reads as it did. -/
def smoothTurnedUptoRow : OpenClaim := { program := "ytoobpiednigcgaa", sum := "5680a6a3772ebd4181a8431cd86e2ab0df4e06a3e5ff493175b31db23f12ebba", func := "lookout/lookoutlaw20.SmoothTurned", spec := "smoothTurned", inPlace := ["math.Float64bits", "math.Float64frombits"], unfollowed := true, recurses := true, apart := false, narrowed := true }
def SmoothTurnedUptoSaid : Prop := smoothTurnedUptoRow.holds Try.pinned (OpenSpec.upto smoothTurnedSpec)

/-- 'lookoutlaw20.SmoothKnown', WHERE WHAT IT READS IS OF BULK AT MOST 1048576: true; the input reads as it did. -/
def smoothKnownUptoRow : OpenClaim := { program := "ytoobpiednigcgaa", sum := "5680a6a3772ebd4181a8431cd86e2ab0df4e06a3e5ff493175b31db23f12ebba", func := "lookout/lookoutlaw20.SmoothKnown", spec := "smoothKnown", inPlace := ["math.Float64bits", "math.Float64frombits"], unfollowed := true, recurses := true, apart := false, narrowed := true }
def SmoothKnownUptoSaid : Prop := smoothKnownUptoRow.holds Try.pinned (OpenSpec.upto smoothKnownSpec)

/-- 'lookoutlaw20.SmoothKnows', WHERE WHAT IT READS IS OF BULK AT MOST 1048576: true; the input reads as it did. -/
def smoothKnowsUptoRow : OpenClaim := { program := "ytoobpiednigcgaa", sum := "5680a6a3772ebd4181a8431cd86e2ab0df4e06a3e5ff493175b31db23f12ebba", func := "lookout/lookoutlaw20.SmoothKnows", spec := "smoothKnows", inPlace := ["math.Float64bits", "math.Float64frombits"], unfollowed := true, recurses := true, apart := false, narrowed := true }
def SmoothKnowsUptoSaid : Prop := smoothKnowsUptoRow.holds Try.pinned (OpenSpec.upto smoothKnowsSpec)

end Rows
end Go.Proofs.Ytoobpiednigcgaa
