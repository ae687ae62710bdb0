/-
  No cell of these rows narrows 'for every input' (looked for: loops, veiled, ifaces, maps, wideKeys, modest, calm, conditions, laid).
  DERIVED. THE GIVEN ROWS OF THIS SEAT. 7 by the template 'for every input the law returns true; each argument reads behind the call as it read before'; 0 by the template 'total and deterministic' (their statements: YtjpddkojclgkmaaTotals.lean).
  GIVEN WITH THE SEED: the statements are not yours to turn. If you find one false, say at which input.
  Laid BY PROGRAM, IN A SANDBOX (cutbox-rows.mjs): the forced cells as the released guide's own fill.sh prints them over the translation 7c0d5da8860574c1… (all of the seat's roots in one cut). By AI agents, Wed Nov 11 2026. No macro, syntax, notation, axiom, sorry.
-/
import Derived.Test.YtjpddkojclgkmaaChecked
import GoSem.Claim
import GoSem.ClaimJoined
import GoSem.ClaimMapViews
import Derived.JoinedTies
import Derived.KernelRfl
namespace Go.Proofs.Ytjpddkojclgkmaa
/- THE CELL 'sum', in the pinned program and in every row, IS THE sha256 OF THE DUMP (.gsa) THAT YtjpddkojclgkmaaProg.lean LOADS. Nothing in Lean hashes anything: it is a label: what it is worth is what the hold of that sum in a sandbox is worth. -/
noncomputable def Try.pinned : Pinned := { name := "ytjpddkojclgkmaa", sum := "7c0d5da8860574c16f6d95a5f1a3f3bcdd9bdf4972f1a62892fa2825bf76e00d", checked := Try.checked }
namespace Rows
def none {H : Type} : Left H := { results := [], args := [] }

/-- 'lookoutlaw18.StateSteps': WHATEVER THE INPUT: true; the input reads as it did. -/
def stateStepsSpec : ChangeSpec := { name := "stateSteps", fn := fun _ => fun
  | [d1, d2] => { results := [.lit (.bool true)], args := [d1, d2] }
  | _ => none }
def stateStepsRow : OpenClaim := { program := "ytjpddkojclgkmaa", sum := "7c0d5da8860574c16f6d95a5f1a3f3bcdd9bdf4972f1a62892fa2825bf76e00d", func := "lookout/lookoutlaw18.StateSteps", spec := "stateSteps", inPlace := ["math.Float64frombits", "math.Float64bits"], apart := false }
def StateStepsSaid : Prop := stateStepsRow.holds Try.pinned (OpenSpec.ofChange stateStepsSpec)

/-- ITS FALSE NEIGHBOUR: 'it returns false'. Refute it at one input. -/
def stateStepsWrong : ChangeSpec := { name := "stateSteps", fn := fun _ => fun
  | [d1, d2] => { results := [.lit (.bool false)], args := [d1, d2] }
  | _ => none }
def StateStepsWrongFalsely : Prop := stateStepsRow.holds Try.pinned (OpenSpec.ofChange stateStepsWrong)

/-- 'lookoutlaw18.StateStarts': WHATEVER THE INPUT: true; the input reads as it did. -/
def stateStartsSpec : ChangeSpec := { name := "stateStarts", fn := fun _ => fun
  | [d1, d2, d3] => { results := [.lit (.bool true)], args := [d1, d2, d3] }
  | _ => none }
def stateStartsRow : OpenClaim := { program := "ytjpddkojclgkmaa", sum := "7c0d5da8860574c16f6d95a5f1a3f3bcdd9bdf4972f1a62892fa2825bf76e00d", func := "lookout/lookoutlaw18.StateStarts", spec := "stateStarts", inPlace := ["math.Float64bits", "math.Float64frombits"], apart := false }
def StateStartsSaid : Prop := stateStartsRow.holds Try.pinned (OpenSpec.ofChange stateStartsSpec)

/-- ITS FALSE NEIGHBOUR: 'it returns false'. Refute it at one input. -/
def stateStartsWrong : ChangeSpec := { name := "stateStarts", fn := fun _ => fun
  | [d1, d2, d3] => { results := [.lit (.bool false)], args := [d1, d2, d3] }
  | _ => none }
def StateStartsWrongFalsely : Prop := stateStartsRow.holds Try.pinned (OpenSpec.ofChange stateStartsWrong)

/-- 'lookoutlaw18.StateExact': WHATEVER THE INPUT: true; the input reads as it did. -/
def stateExactSpec : ChangeSpec := { name := "stateExact", fn := fun _ => fun
  | [d1, d2, d3] => { results := [.lit (.bool true)], args := [d1, d2, d3] }
  | _ => none }
def stateExactRow : OpenClaim := { program := "ytjpddkojclgkmaa", sum := "7c0d5da8860574c16f6d95a5f1a3f3bcdd9bdf4972f1a62892fa2825bf76e00d", func := "lookout/lookoutlaw18.StateExact", spec := "stateExact", inPlace := ["math.Float64frombits", "math.Float64bits"], apart := false }
def StateExactSaid : Prop := stateExactRow.holds Try.pinned (OpenSpec.ofChange stateExactSpec)

/-- ITS FALSE NEIGHBOUR: 'it returns false'. Refute it at one input. -/
def stateExactWrong : ChangeSpec := { name := "stateExact", fn := fun _ => fun
  | [d1, d2, d3] => { results := [.lit (.bool false)], args := [d1, d2, d3] }
  | _ => none }
def StateExactWrongFalsely : Prop := stateExactRow.holds Try.pinned (OpenSpec.ofChange stateExactWrong)

/-- 'lookoutlaw18.StateStays': WHATEVER THE INPUT: true; the input reads as it did. -/
def stateStaysSpec : ChangeSpec := { name := "stateStays", fn := fun _ => fun
  | [d1, d2] => { results := [.lit (.bool true)], args := [d1, d2] }
  | _ => none }
def stateStaysRow : OpenClaim := { program := "ytjpddkojclgkmaa", sum := "7c0d5da8860574c16f6d95a5f1a3f3bcdd9bdf4972f1a62892fa2825bf76e00d", func := "lookout/lookoutlaw18.StateStays", spec := "stateStays", inPlace := ["math.Float64bits", "math.Float64frombits"], apart := false }
def StateStaysSaid : Prop := stateStaysRow.holds Try.pinned (OpenSpec.ofChange stateStaysSpec)

/-- ITS FALSE NEIGHBOUR: 'it returns false'. Refute it at one input. -/
def stateStaysWrong : ChangeSpec := { name := "stateStays", fn := fun _ => fun
  | [d1, d2] => { results := [.lit (.bool false)], args := [d1, d2] }
  | _ => none }
def StateStaysWrongFalsely : Prop := stateStaysRow.holds Try.pinned (OpenSpec.ofChange stateStaysWrong)

/-- 'lookoutlaw18.StateKnown': WHATEVER THE INPUT: true; the input reads as it did. -/
def stateKnownSpec : ChangeSpec := { name := "stateKnown", fn := fun _ => fun
  | [] => { results := [.lit (.bool true)], args := [] }
  | _ => none }
def stateKnownRow : OpenClaim := { program := "ytjpddkojclgkmaa", sum := "7c0d5da8860574c16f6d95a5f1a3f3bcdd9bdf4972f1a62892fa2825bf76e00d", func := "lookout/lookoutlaw18.StateKnown", spec := "stateKnown", inPlace := ["math.Float64frombits", "math.Float64bits"], apart := false }
def StateKnownSaid : Prop := stateKnownRow.holds Try.pinned (OpenSpec.ofChange stateKnownSpec)

/-- ITS FALSE NEIGHBOUR: 'it returns false'. Refute it at one input. -/
def stateKnownWrong : ChangeSpec := { name := "stateKnown", fn := fun _ => fun
  | [] => { results := [.lit (.bool false)], args := [] }
  | _ => none }
def StateKnownWrongFalsely : Prop := stateKnownRow.holds Try.pinned (OpenSpec.ofChange stateKnownWrong)

/-- 'lookoutlaw18.StateSquares': WHATEVER THE INPUT: true; the input reads as it did. -/
def stateSquaresSpec : ChangeSpec := { name := "stateSquares", fn := fun _ => fun
  | [d1, d2] => { results := [.lit (.bool true)], args := [d1, d2] }
  | _ => none }
def stateSquaresRow : OpenClaim := { program := "ytjpddkojclgkmaa", sum := "7c0d5da8860574c16f6d95a5f1a3f3bcdd9bdf4972f1a62892fa2825bf76e00d", func := "lookout/lookoutlaw18.StateSquares", spec := "stateSquares", inPlace := ["math.Float64bits", "math.Float64frombits"], apart := false }
def StateSquaresSaid : Prop := stateSquaresRow.holds Try.pinned (OpenSpec.ofChange stateSquaresSpec)

/-- ITS FALSE NEIGHBOUR: 'it returns false'. Refute it at one input. -/
def stateSquaresWrong : ChangeSpec := { name := "stateSquares", fn := fun _ => fun
  | [d1, d2] => { results := [.lit (.bool false)], args := [d1, d2] }
  | _ => none }
def StateSquaresWrongFalsely : Prop := stateSquaresRow.holds Try.pinned (OpenSpec.ofChange stateSquaresWrong)

/-- 'lookoutlaw18.StateSure': WHATEVER THE INPUT: true; the input reads as it did. -/
def stateSureSpec : ChangeSpec := { name := "stateSure", fn := fun _ => fun
  | [d1, d2, d3] => { results := [.lit (.bool true)], args := [d1, d2, d3] }
  | _ => none }
def stateSureRow : OpenClaim := { program := "ytjpddkojclgkmaa", sum := "7c0d5da8860574c16f6d95a5f1a3f3bcdd9bdf4972f1a62892fa2825bf76e00d", func := "lookout/lookoutlaw18.StateSure", spec := "stateSure", inPlace := ["math.Float64bits", "math.Float64frombits"], apart := false }
def StateSureSaid : Prop := stateSureRow.holds Try.pinned (OpenSpec.ofChange stateSureSpec)

/-- ITS FALSE NEIGHBOUR: 'it returns false'. Refute it at one input. -/
def stateSureWrong : ChangeSpec := { name := "stateSure", fn := fun _ => fun
  | [d1, d2, d3] => { results := [.lit (.bool false)], args := [d1, d2, d3] }
  | _ => none }
def StateSureWrongFalsely : Prop := stateSureRow.holds Try.pinned (OpenSpec.ofChange stateSureWrong)

/- THE SECOND FORM. 'bulk': how many values and letters a reading holds, each counted each time it is reached (what is shared counts as often as it is met; a slice's spare places count too). A statement '..UptoSaid' is the law's where the arguments, and the package variables that the reading takes, are together of bulk at most 1048576: NARROWER than '..Said'. Prove '..Said' where nothing that the law and all that it calls make is longer than what came in: it says more and counts as full. Else prove '..UptoSaid'. A law counts once. -/
mutual
def uptoBulk {H : Type} : DataW H → Nat
  | .lit (.string bytes) => bytes.length + 1
  | .lit _ => 1
  | .nil => 1
  | .ptr d => uptoBulk d + 1
  | .slice elems spare => uptoBulkAll elems + uptoBulkAll spare + 1
  | .agg parts => uptoBulkAll parts + 1
  | .iface _ d => uptoBulk d + 1
  | .map entries => uptoBulkEntries entries + 1
  | .held _ => 1
def uptoBulkAll {H : Type} : List (DataW H) → Nat
  | [] => 0
  | d :: r => uptoBulk d + uptoBulkAll r
def uptoBulkEntries {H : Type} : List (Lit × DataW H) → Nat
  | [] => 0
  | x :: r => uptoBulkEntry x + uptoBulkEntries r
def uptoBulkEntry {H : Type} : Lit × DataW H → Nat
  | (.string bytes, d) => bytes.length + uptoBulk d + 1
  | (_, d) => uptoBulk d + 1
 end
def uptoSmall : (H : Type) → List (DataW H) → Bool := fun _ ds => decide (uptoBulkAll ds ≤ 1048576)
def OpenSpec.upto (s : _root_.Go.ChangeSpec) : _root_.Go.OpenSpec := { _root_.Go.OpenSpec.ofChange s with cond := some uptoSmall }

/-- 'lookoutlaw18.StateSteps', WHERE WHAT IT READS IS OF BULK AT MOST 1048576: true; the input reads as it did. -/
def stateStepsUptoRow : OpenClaim := { program := "ytjpddkojclgkmaa", sum := "7c0d5da8860574c16f6d95a5f1a3f3bcdd9bdf4972f1a62892fa2825bf76e00d", func := "lookout/lookoutlaw18.StateSteps", spec := "stateSteps", inPlace := ["math.Float64frombits", "math.Float64bits"], apart := false, narrowed := true }
def StateStepsUptoSaid : Prop := stateStepsUptoRow.holds Try.pinned (OpenSpec.upto stateStepsSpec)

/-- 'lookoutlaw18.StateStarts', WHERE WHAT IT READS IS OF BULK AT MOST 1048576: true; the input reads as it did. -/
def stateStartsUptoRow : OpenClaim := { program := "ytjpddkojclgkmaa", sum := "7c0d5da8860574c16f6d95a5f1a3f3bcdd9bdf4972f1a62892fa2825bf76e00d", func := "lookout/lookoutlaw18.StateStarts", spec := "stateStarts", inPlace := ["math.Float64bits", "math.Float64frombits"], apart := false, narrowed := true }
def StateStartsUptoSaid : Prop := stateStartsUptoRow.holds Try.pinned (OpenSpec.upto stateStartsSpec)

/-- 'lookoutlaw18.StateExact', WHERE WHAT IT READS IS OF BULK AT MOST 1048576: true; the input reads as it did. -/
def stateExactUptoRow : OpenClaim := { program := "ytjpddkojclgkmaa", sum := "7c0d5da8860574c16f6d95a5f1a3f3bcdd9bdf4972f1a62892fa2825bf76e00d", func := "lookout/lookoutlaw18.StateExact", spec := "stateExact", inPlace := ["math.Float64frombits", "math.Float64bits"], apart := false, narrowed := true }
def StateExactUptoSaid : Prop := stateExactUptoRow.holds Try.pinned (OpenSpec.upto stateExactSpec)

/-- 'lookoutlaw18.StateStays', WHERE WHAT IT READS IS OF BULK AT MOST 1048576: true; the input reads as it did. -/
def stateStaysUptoRow : OpenClaim := { program := "ytjpddkojclgkmaa", sum := "7c0d5da8860574c16f6d95a5f1a3f3bcdd9bdf4972f1a62892fa2825bf76e00d", func := "lookout/lookoutlaw18.StateStays", spec := "stateStays", inPlace := ["math.Float64bits", "math.Float64frombits"], apart := false, narrowed := true }
def StateStaysUptoSaid : Prop := stateStaysUptoRow.holds Try.pinned (OpenSpec.upto stateStaysSpec)

/-- 'lookoutlaw18.StateKnown', WHERE WHAT IT READS IS OF BULK AT MOST 1048576: true; the input reads as it did. -/
def stateKnownUptoRow : OpenClaim := { program := "ytjpddkojclgkmaa", sum := "7c0d5da8860574c16f6d95a5f1a3f3bcdd9bdf4972f1a62892fa2825bf76e00d", func := "lookout/lookoutlaw18.StateKnown", spec := "stateKnown", inPlace := ["math.Float64frombits", "math.Float64bits"], apart := false, narrowed := true }
def StateKnownUptoSaid : Prop := stateKnownUptoRow.holds Try.pinned (OpenSpec.upto stateKnownSpec)

/-- 'lookoutlaw18.StateSquares', WHERE WHAT IT READS IS OF BULK AT MOST 1048576: true; the input reads as it did. -/
def stateSquaresUptoRow : OpenClaim := { program := "ytjpddkojclgkmaa", sum := "7c0d5da8860574c16f6d95a5f1a3f3bcdd9bdf4972f1a62892fa2825bf76e00d", func := "lookout/lookoutlaw18.StateSquares", spec := "stateSquares", inPlace := ["math.Float64bits", "math.Float64frombits"], apart := false, narrowed := true }
def StateSquaresUptoSaid : Prop := stateSquaresUptoRow.holds Try.pinned (OpenSpec.upto stateSquaresSpec)

/-- 'lookoutlaw18.StateSure', WHERE WHAT IT READS IS OF BULK AT MOST 1048576: true; the input reads as it did. -/
def stateSureUptoRow : OpenClaim := { program := "ytjpddkojclgkmaa", sum := "7c0d5da8860574c16f6d95a5f1a3f3bcdd9bdf4972f1a62892fa2825bf76e00d", func := "lookout/lookoutlaw18.StateSure", spec := "stateSure", inPlace := ["math.Float64bits", "math.Float64frombits"], apart := false, narrowed := true }
def StateSureUptoSaid : Prop := stateSureUptoRow.holds Try.pinned (OpenSpec.upto stateSureSpec)

end Rows
end Go.Proofs.Ytjpddkojclgkmaa
