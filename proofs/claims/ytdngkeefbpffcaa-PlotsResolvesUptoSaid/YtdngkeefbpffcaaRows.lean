/-
  No cell of these rows narrows 'for every input' (looked for: loops, veiled, ifaces, maps, wideKeys, modest, calm, conditions, laid).
  DERIVED. THE GIVEN ROWS OF THIS SEAT. 7 by the template 'for every input the law returns true; each argument reads behind the call as it read before'; 0 by the template 'total and deterministic' (their statements: YtdngkeefbpffcaaTotals.lean).
  GIVEN WITH THE SEED: the statements are not yours to turn. If you find one false, say at which input.
  Laid BY PROGRAM, IN A SANDBOX (cutbox-rows.mjs): the forced cells as the released guide's own fill.sh prints them over the translation b3e29274f7515591… (all of the seat's roots in one cut). By AI agents, Wed Nov 11 2026. No macro, syntax, notation, axiom, sorry.
-/
import Derived.Test.YtdngkeefbpffcaaChecked
import GoSem.Claim
import GoSem.ClaimJoined
import GoSem.ClaimMapViews
import Derived.JoinedTies
import Derived.KernelRfl
namespace Go.Proofs.Ytdngkeefbpffcaa
/- THE CELL 'sum', in the pinned program and in every row, IS THE sha256 OF THE DUMP (.gsa) THAT YtdngkeefbpffcaaProg.lean LOADS. Nothing in Lean hashes anything: it is a label: what it is worth is what the hold of that sum in a sandbox is worth. -/
noncomputable def Try.pinned : Pinned := { name := "ytdngkeefbpffcaa", sum := "b3e29274f751559159ca24d700be11941be4f3b0141bef568a1cbc4aeb0545b2", checked := Try.checked }
namespace Rows
def none {H : Type} : Left H := { results := [], args := [] }

/-- 'lookoutlaw16.PlotsOne': WHATEVER THE INPUT: true; the input reads as it did. -/
def plotsOneSpec : ChangeSpec := { name := "plotsOne", fn := fun _ => fun
  | [d1, d2, d3] => { results := [.lit (.bool true)], args := [d1, d2, d3] }
  | _ => none }
def plotsOneRow : OpenClaim := { program := "ytdngkeefbpffcaa", sum := "b3e29274f751559159ca24d700be11941be4f3b0141bef568a1cbc4aeb0545b2", func := "lookout/lookoutlaw16.PlotsOne", spec := "plotsOne", inPlace := ["math.Float64bits", "math.Float64frombits"], unfollowed := true, recurses := true, apart := false }
def PlotsOneSaid : Prop := plotsOneRow.holds Try.pinned (OpenSpec.ofChange plotsOneSpec)

/-- ITS FALSE NEIGHBOUR: 'it returns false'. Refute it at one input. -/
def plotsOneWrong : ChangeSpec := { name := "plotsOne", fn := fun _ => fun
  | [d1, d2, d3] => { results := [.lit (.bool false)], args := [d1, d2, d3] }
  | _ => none }
def PlotsOneWrongFalsely : Prop := plotsOneRow.holds Try.pinned (OpenSpec.ofChange plotsOneWrong)

/-- 'lookoutlaw16.PlotsResolves': WHATEVER THE INPUT: true; the input reads as it did. -/
def plotsResolvesSpec : ChangeSpec := { name := "plotsResolves", fn := fun _ => fun
  | [d] => { results := [.lit (.bool true)], args := [d] }
  | _ => none }
def plotsResolvesRow : OpenClaim := { program := "ytdngkeefbpffcaa", sum := "b3e29274f751559159ca24d700be11941be4f3b0141bef568a1cbc4aeb0545b2", func := "lookout/lookoutlaw16.PlotsResolves", spec := "plotsResolves", inPlace := ["math.Float64bits", "math.Float64frombits"], unfollowed := true, recurses := true, apart := false }
def PlotsResolvesSaid : Prop := plotsResolvesRow.holds Try.pinned (OpenSpec.ofChange plotsResolvesSpec)

/-- ITS FALSE NEIGHBOUR: 'it returns false'. Refute it at one input. -/
def plotsResolvesWrong : ChangeSpec := { name := "plotsResolves", fn := fun _ => fun
  | [d] => { results := [.lit (.bool false)], args := [d] }
  | _ => none }
def PlotsResolvesWrongFalsely : Prop := plotsResolvesRow.holds Try.pinned (OpenSpec.ofChange plotsResolvesWrong)

/-- 'lookoutlaw16.PlotsUnfold': WHATEVER THE INPUT: true; the input reads as it did. -/
def plotsUnfoldSpec : ChangeSpec := { name := "plotsUnfold", fn := fun _ => fun
  | [d1, d2, d3, d4, d5] => { results := [.lit (.bool true)], args := [d1, d2, d3, d4, d5] }
  | _ => none }
def plotsUnfoldRow : OpenClaim := { program := "ytdngkeefbpffcaa", sum := "b3e29274f751559159ca24d700be11941be4f3b0141bef568a1cbc4aeb0545b2", func := "lookout/lookoutlaw16.PlotsUnfold", spec := "plotsUnfold", inPlace := ["math.Float64bits", "math.Float64frombits"], unfollowed := true, recurses := true, apart := false }
def PlotsUnfoldSaid : Prop := plotsUnfoldRow.holds Try.pinned (OpenSpec.ofChange plotsUnfoldSpec)

/-- ITS FALSE NEIGHBOUR: 'it returns false'. Refute it at one input. -/
def plotsUnfoldWrong : ChangeSpec := { name := "plotsUnfold", fn := fun _ => fun
  | [d1, d2, d3, d4, d5] => { results := [.lit (.bool false)], args := [d1, d2, d3, d4, d5] }
  | _ => none }
def PlotsUnfoldWrongFalsely : Prop := plotsUnfoldRow.holds Try.pinned (OpenSpec.ofChange plotsUnfoldWrong)

/-- 'lookoutlaw16.PlotsOrders': WHATEVER THE INPUT: true; the input reads as it did. -/
def plotsOrdersSpec : ChangeSpec := { name := "plotsOrders", fn := fun _ => fun
  | [d1, d2, d3] => { results := [.lit (.bool true)], args := [d1, d2, d3] }
  | _ => none }
def plotsOrdersRow : OpenClaim := { program := "ytdngkeefbpffcaa", sum := "b3e29274f751559159ca24d700be11941be4f3b0141bef568a1cbc4aeb0545b2", func := "lookout/lookoutlaw16.PlotsOrders", spec := "plotsOrders", inPlace := ["math.Float64bits", "math.Float64frombits"], unfollowed := true, recurses := true, apart := false }
def PlotsOrdersSaid : Prop := plotsOrdersRow.holds Try.pinned (OpenSpec.ofChange plotsOrdersSpec)

/-- ITS FALSE NEIGHBOUR: 'it returns false'. Refute it at one input. -/
def plotsOrdersWrong : ChangeSpec := { name := "plotsOrders", fn := fun _ => fun
  | [d1, d2, d3] => { results := [.lit (.bool false)], args := [d1, d2, d3] }
  | _ => none }
def PlotsOrdersWrongFalsely : Prop := plotsOrdersRow.holds Try.pinned (OpenSpec.ofChange plotsOrdersWrong)

/-- 'lookoutlaw16.PlotsOrdered': WHATEVER THE INPUT: true; the input reads as it did. -/
def plotsOrderedSpec : ChangeSpec := { name := "plotsOrdered", fn := fun _ => fun
  | [d1, d2] => { results := [.lit (.bool true)], args := [d1, d2] }
  | _ => none }
def plotsOrderedRow : OpenClaim := { program := "ytdngkeefbpffcaa", sum := "b3e29274f751559159ca24d700be11941be4f3b0141bef568a1cbc4aeb0545b2", func := "lookout/lookoutlaw16.PlotsOrdered", spec := "plotsOrdered", inPlace := ["math.Float64bits", "math.Float64frombits"], unfollowed := true, recurses := true, apart := false }
def PlotsOrderedSaid : Prop := plotsOrderedRow.holds Try.pinned (OpenSpec.ofChange plotsOrderedSpec)

/-- ITS FALSE NEIGHBOUR: 'it returns false'. Refute it at one input. -/
def plotsOrderedWrong : ChangeSpec := { name := "plotsOrdered", fn := fun _ => fun
  | [d1, d2] => { results := [.lit (.bool false)], args := [d1, d2] }
  | _ => none }
def PlotsOrderedWrongFalsely : Prop := plotsOrderedRow.holds Try.pinned (OpenSpec.ofChange plotsOrderedWrong)

/-- 'lookoutlaw16.PlotsApart': WHATEVER THE INPUT: true; the input reads as it did. -/
def plotsApartSpec : ChangeSpec := { name := "plotsApart", fn := fun _ => fun
  | [d1, d2, d3] => { results := [.lit (.bool true)], args := [d1, d2, d3] }
  | _ => none }
def plotsApartRow : OpenClaim := { program := "ytdngkeefbpffcaa", sum := "b3e29274f751559159ca24d700be11941be4f3b0141bef568a1cbc4aeb0545b2", func := "lookout/lookoutlaw16.PlotsApart", spec := "plotsApart", inPlace := ["math.Float64bits", "math.Float64frombits"], unfollowed := true, recurses := true, apart := false }
def PlotsApartSaid : Prop := plotsApartRow.holds Try.pinned (OpenSpec.ofChange plotsApartSpec)

/-- ITS FALSE NEIGHBOUR: 'it returns false'. Refute it at one input. -/
def plotsApartWrong : ChangeSpec := { name := "plotsApart", fn := fun _ => fun
  | [d1, d2, d3] => { results := [.lit (.bool false)], args := [d1, d2, d3] }
  | _ => none }
def PlotsApartWrongFalsely : Prop := plotsApartRow.holds Try.pinned (OpenSpec.ofChange plotsApartWrong)

/-- 'lookoutlaw16.PlotsNear': WHATEVER THE INPUT: true; the input reads as it did. -/
def plotsNearSpec : ChangeSpec := { name := "plotsNear", fn := fun _ => fun
  | [d1, d2, d3] => { results := [.lit (.bool true)], args := [d1, d2, d3] }
  | _ => none }
def plotsNearRow : OpenClaim := { program := "ytdngkeefbpffcaa", sum := "b3e29274f751559159ca24d700be11941be4f3b0141bef568a1cbc4aeb0545b2", func := "lookout/lookoutlaw16.PlotsNear", spec := "plotsNear", inPlace := ["math.Float64bits", "math.Float64frombits"], unfollowed := true, recurses := true, apart := false }
def PlotsNearSaid : Prop := plotsNearRow.holds Try.pinned (OpenSpec.ofChange plotsNearSpec)

/-- ITS FALSE NEIGHBOUR: 'it returns false'. Refute it at one input. -/
def plotsNearWrong : ChangeSpec := { name := "plotsNear", fn := fun _ => fun
  | [d1, d2, d3] => { results := [.lit (.bool false)], args := [d1, d2, d3] }
  | _ => none }
def PlotsNearWrongFalsely : Prop := plotsNearRow.holds Try.pinned (OpenSpec.ofChange plotsNearWrong)

/- THE SECOND FORM. 'bulk': how many values and letters a reading holds, each counted each time it is reached (what is shared counts as often as it is met; a slice's spare places count too). A statement '..UptoSaid' is the law's where the arguments, and the package variables that the reading takes, are together of bulk at most 1048576: NARROWER than '..Said'. Prove '..Said' where nothing that the law and all that it calls make is longer than what came in: it says more and counts as full. Else prove '..UptoSaid'. A law counts once. -/
mutual
def uptoBulk {H : Type} : DataW H → Nat
  | .lit (.string bytes) => bytes.length + 1
  | .lit _ => 1
  | .nil => 1
  | .ptr d => uptoBulk d + 1
  | .slice elems spare => uptoBulkAll elems + uptoBulkAll spare + 1
  | .agg parts => uptoBulkAll parts + 1
  | .iface _ d => uptoBulk d + 1
  | .map entries => uptoBulkEntries entries + 1
  | .held _ => 1
def uptoBulkAll {H : Type} : List (DataW H) → Nat
  | [] => 0
  | d :: r => uptoBulk d + uptoBulkAll r
def uptoBulkEntries {H : Type} : List (Lit × DataW H) → Nat
  | [] => 0
  | x :: r => uptoBulkEntry x + uptoBulkEntries r
def uptoBulkEntry {H : Type} : Lit × DataW H → Nat
  | (.string bytes, d) => bytes.length + uptoBulk d + 1
  | (_, d) => uptoBulk d + 1
 end
def uptoSmall : (H : Type) → List (DataW H) → Bool := fun _ ds => decide (uptoBulkAll ds ≤ 1048576)
def OpenSpec.upto (s : _root_.Go.ChangeSpec) : _root_.Go.OpenSpec := { _root_.Go.OpenSpec.ofChange s with cond := some uptoSmall }

/-- 'lookoutlaw16.PlotsOne', WHERE WHAT IT READS IS OF BULK AT MOST 1048576: true; the input reads as it did. -/
def plotsOneUptoRow : OpenClaim := { program := "ytdngkeefbpffcaa", sum := "b3e29274f751559159ca24d700be11941be4f3b0141bef568a1cbc4aeb0545b2", func := "lookout/lookoutlaw16.PlotsOne", spec := "plotsOne", inPlace := ["math.Float64bits", "math.Float64frombits"], unfollowed := true, recurses := true, apart := false, narrowed := true }
def PlotsOneUptoSaid : Prop := plotsOneUptoRow.holds Try.pinned (OpenSpec.upto plotsOneSpec)

/-- 'lookoutlaw16.PlotsResolves', WHERE WHAT IT READS IS OF BULK AT MOST 1048576: true; the input reads as it did. -/
def plotsResolvesUptoRow : OpenClaim := { program := "ytdngkeefbpffcaa", sum := "b3e29274f751559159ca24d700be11941be4f3b0141bef568a1cbc4aeb0545b2", func := "lookout/lookoutlaw16.PlotsResolves", spec := "plotsResolves", inPlace := ["math.Float64bits", "math.Float64frombits"], unfollowed := true, recurses := true, apart := false, narrowed := true }
def PlotsResolvesUptoSaid : Prop := plotsResolvesUptoRow.holds Try.pinned (OpenSpec.upto plotsResolvesSpec)

/-- 'lookoutlaw16.PlotsUnfold', WHERE WHAT IT READS IS OF BULK AT MOST 1048576: true; the input reads as it did. -/
def plotsUnfoldUptoRow : OpenClaim := { program := "ytdngkeefbpffcaa", sum := "b3e29274f751559159ca24d700be11941be4f3b0141bef568a1cbc4aeb0545b2", func := "lookout/lookoutlaw16.PlotsUnfold", spec := "plotsUnfold", inPlace := ["math.Float64bits", "math.Float64frombits"], unfollowed := true, recurses := true, apart := false, narrowed := true }
def PlotsUnfoldUptoSaid : Prop := plotsUnfoldUptoRow.holds Try.pinned (OpenSpec.upto plotsUnfoldSpec)

/-- 'lookoutlaw16.PlotsOrders', WHERE WHAT IT READS IS OF BULK AT MOST 1048576: true; the input reads as it did. -/
def plotsOrdersUptoRow : OpenClaim := { program := "ytdngkeefbpffcaa", sum := "b3e29274f751559159ca24d700be11941be4f3b0141bef568a1cbc4aeb0545b2", func := "lookout/lookoutlaw16.PlotsOrders", spec := "plotsOrders", inPlace := ["math.Float64bits", "math.Float64frombits"], unfollowed := true, recurses := true, apart := false, narrowed := true }
def PlotsOrdersUptoSaid : Prop := plotsOrdersUptoRow.holds Try.pinned (OpenSpec.upto plotsOrdersSpec)

/-- 'lookoutlaw16.PlotsOrdered', WHERE WHAT IT READS IS OF BULK AT MOST 1048576: true; the input reads as it did. -/
def plotsOrderedUptoRow : OpenClaim := { program := "ytdngkeefbpffcaa", sum := "b3e29274f751559159ca24d700be11941be4f3b0141bef568a1cbc4aeb0545b2", func := "lookout/lookoutlaw16.PlotsOrdered", spec := "plotsOrdered", inPlace := ["math.Float64bits", "math.Float64frombits"], unfollowed := true, recurses := true, apart := false, narrowed := true }
def PlotsOrderedUptoSaid : Prop := plotsOrderedUptoRow.holds Try.pinned (OpenSpec.upto plotsOrderedSpec)

/-- 'lookoutlaw16.PlotsApart', WHERE WHAT IT READS IS OF BULK AT MOST 1048576: true; the input reads as it did. -/
def plotsApartUptoRow : OpenClaim := { program := "ytdngkeefbpffcaa", sum := "b3e29274f751559159ca24d700be11941be4f3b0141bef568a1cbc4aeb0545b2", func := "lookout/lookoutlaw16.PlotsApart", spec := "plotsApart", inPlace := ["math.Float64bits", "math.Float64frombits"], unfollowed := true, recurses := true, apart := false, narrowed := true }
def PlotsApartUptoSaid : Prop := plotsApartUptoRow.holds Try.pinned (OpenSpec.upto plotsApartSpec)

/-- 'lookoutlaw16.PlotsNear', WHERE WHAT IT READS IS OF BULK AT MOST 1048576: true; the input reads as it did. -/
def plotsNearUptoRow : OpenClaim := { program := "ytdngkeefbpffcaa", sum := "b3e29274f751559159ca24d700be11941be4f3b0141bef568a1cbc4aeb0545b2", func := "lookout/lookoutlaw16.PlotsNear", spec := "plotsNear", inPlace := ["math.Float64bits", "math.Float64frombits"], unfollowed := true, recurses := true, apart := false, narrowed := true }
def PlotsNearUptoSaid : Prop := plotsNearUptoRow.holds Try.pinned (OpenSpec.upto plotsNearSpec)

end Rows
end Go.Proofs.Ytdngkeefbpffcaa
