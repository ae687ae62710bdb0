/-
  No cell of these rows narrows 'for every input' (looked for: loops, veiled, ifaces, maps, wideKeys, modest, calm, conditions, laid).
  DERIVED. THE GIVEN ROWS OF THIS SEAT. 3 by the template 'for every input the law returns true; each argument reads behind the call as it read before'; 0 by the template 'total and deterministic' (their statements: YteejnfjlfoeblaaTotals.lean).
  GIVEN WITH THE SEED: the statements are not yours to turn. If you find one false, say at which input.
  Laid BY PROGRAM, IN A SANDBOX (cutbox-rows.mjs): the forced cells as the released guide's own fill.sh prints them over the translation 3de7f110d83e8240… (all of the seat's roots in one cut). By AI agents, Wed Nov 11 2026. No macro, syntax, notation, axiom, sorry.
-/
import Derived.Test.YteejnfjlfoeblaaChecked
import GoSem.Claim
import GoSem.ClaimJoined
import GoSem.ClaimMapViews
import Derived.JoinedTies
import Derived.KernelRfl
namespace Go.Proofs.Yteejnfjlfoeblaa
/- THE CELL 'sum', in the pinned program and in every row, IS THE sha256 OF THE DUMP (.gsa) THAT YteejnfjlfoeblaaProg.lean LOADS. Nothing in Lean hashes anything: it is a label: what it is worth is what the hold of that sum in a sandbox is worth. -/
noncomputable def Try.pinned : Pinned := { name := "yteejnfjlfoeblaa", sum := "3de7f110d83e824012212acf959b35fd122bd5bc4eff7fa7ec4ff3f473d74360", checked := Try.checked }
namespace Rows
def none {H : Type} : Left H := { results := [], args := [] }

/-- 'lookouttop.TopInTime': WHATEVER THE INPUT: true; the input reads as it did. -/
def topInTimeSpec : ChangeSpec := { name := "topInTime", fn := fun _ => fun
  | [d1, d2, d3, d4] => { results := [.lit (.bool true)], args := [d1, d2, d3, d4] }
  | _ => none }
def topInTimeRow : OpenClaim := { program := "yteejnfjlfoeblaa", sum := "3de7f110d83e824012212acf959b35fd122bd5bc4eff7fa7ec4ff3f473d74360", func := "lookout/lookouttop.TopInTime", spec := "topInTime", unfollowed := true, recurses := true, apart := false }
def TopInTimeSaid : Prop := topInTimeRow.holds Try.pinned (OpenSpec.ofChange topInTimeSpec)

/-- ITS FALSE NEIGHBOUR: 'it returns false'. Refute it at one input. -/
def topInTimeWrong : ChangeSpec := { name := "topInTime", fn := fun _ => fun
  | [d1, d2, d3, d4] => { results := [.lit (.bool false)], args := [d1, d2, d3, d4] }
  | _ => none }
def TopInTimeWrongFalsely : Prop := topInTimeRow.holds Try.pinned (OpenSpec.ofChange topInTimeWrong)

/-- 'lookouttop.TopUnfolded': WHATEVER THE INPUT: true; the input reads as it did. -/
def topUnfoldedSpec : ChangeSpec := { name := "topUnfolded", fn := fun _ => fun
  | [d1, d2, d3, d4, d5] => { results := [.lit (.bool true)], args := [d1, d2, d3, d4, d5] }
  | _ => none }
def topUnfoldedRow : OpenClaim := { program := "yteejnfjlfoeblaa", sum := "3de7f110d83e824012212acf959b35fd122bd5bc4eff7fa7ec4ff3f473d74360", func := "lookout/lookouttop.TopUnfolded", spec := "topUnfolded", unfollowed := true, recurses := true, named := ["math/bits.divideError", "math/bits.overflowError"], apart := false }
def TopUnfoldedSaid : Prop := topUnfoldedRow.holds Try.pinned (OpenSpec.ofChange topUnfoldedSpec)

/-- ITS FALSE NEIGHBOUR: 'it returns false'. Refute it at one input. -/
def topUnfoldedWrong : ChangeSpec := { name := "topUnfolded", fn := fun _ => fun
  | [d1, d2, d3, d4, d5] => { results := [.lit (.bool false)], args := [d1, d2, d3, d4, d5] }
  | _ => none }
def TopUnfoldedWrongFalsely : Prop := topUnfoldedRow.holds Try.pinned (OpenSpec.ofChange topUnfoldedWrong)

/-- 'lookouttop.TopPeak': WHATEVER THE INPUT: true; the input reads as it did. -/
def topPeakSpec : ChangeSpec := { name := "topPeak", fn := fun _ => fun
  | [d1, d2, d3, d4] => { results := [.lit (.bool true)], args := [d1, d2, d3, d4] }
  | _ => none }
def topPeakRow : OpenClaim := { program := "yteejnfjlfoeblaa", sum := "3de7f110d83e824012212acf959b35fd122bd5bc4eff7fa7ec4ff3f473d74360", func := "lookout/lookouttop.TopPeak", spec := "topPeak", inPlace := ["math.Float64frombits", "math.archTrunc", "math.Float64bits", "math.sqrt"], unfollowed := true, recurses := true, apart := false }
def TopPeakSaid : Prop := topPeakRow.holds Try.pinned (OpenSpec.ofChange topPeakSpec)

/-- ITS FALSE NEIGHBOUR: 'it returns false'. Refute it at one input. -/
def topPeakWrong : ChangeSpec := { name := "topPeak", fn := fun _ => fun
  | [d1, d2, d3, d4] => { results := [.lit (.bool false)], args := [d1, d2, d3, d4] }
  | _ => none }
def TopPeakWrongFalsely : Prop := topPeakRow.holds Try.pinned (OpenSpec.ofChange topPeakWrong)

/- THE SECOND FORM. 'bulk': how many values and letters a reading holds, each counted each time it is reached (what is shared counts as often as it is met; a slice's spare places count too). A statement '..UptoSaid' is the law's where the arguments, and the package variables that the reading takes, are together of bulk at most 1048576: NARROWER than '..Said'. Prove '..Said' where nothing that the law and all that it calls make is longer than what came in: it says more and counts as full. Else prove '..UptoSaid'. A law counts once. -/
mutual
def uptoBulk {H : Type} : DataW H → Nat
  | .lit (.string bytes) => bytes.length + 1
  | .lit _ => 1
  | .nil => 1
  | .ptr d => uptoBulk d + 1
  | .slice elems spare => uptoBulkAll elems + uptoBulkAll spare + 1
  | .agg parts => uptoBulkAll parts + 1
  | .iface _ d => uptoBulk d + 1
  | .map entries => uptoBulkEntries entries + 1
  | .held _ => 1
def uptoBulkAll {H : Type} : List (DataW H) → Nat
  | [] => 0
  | d :: r => uptoBulk d + uptoBulkAll r
def uptoBulkEntries {H : Type} : List (Lit × DataW H) → Nat
  | [] => 0
  | x :: r => uptoBulkEntry x + uptoBulkEntries r
def uptoBulkEntry {H : Type} : Lit × DataW H → Nat
  | (.string bytes, d) => bytes.length + uptoBulk d + 1
  | (_, d) => uptoBulk d + 1
 end
def uptoSmall : (H : Type) → List (DataW H) → Bool := fun _ ds => decide (uptoBulkAll ds ≤ 1048576)
def OpenSpec.upto (s : _root_.Go.ChangeSpec) : _root_.Go.OpenSpec := { _root_.Go.OpenSpec.ofChange s with cond := some uptoSmall }

/-- 'lookouttop.TopInTime', WHERE WHAT IT READS IS OF BULK AT MOST 1048576: true; the input reads as it did. -/
def topInTimeUptoRow : OpenClaim := { program := "yteejnfjlfoeblaa", sum := "3de7f110d83e824012212acf959b35fd122bd5bc4eff7fa7ec4ff3f473d74360", func := "lookout/lookouttop.TopInTime", spec := "topInTime", unfollowed := true, recurses := true, apart := false, narrowed := true }
def TopInTimeUptoSaid : Prop := topInTimeUptoRow.holds Try.pinned (OpenSpec.upto topInTimeSpec)

/-- 'lookouttop.TopUnfolded', WHERE WHAT IT READS IS OF BULK AT MOST 1048576: true; the input reads as it did. -/
def topUnfoldedUptoRow : OpenClaim := { program := "yteejnfjlfoeblaa", sum := "3de7f110d83e824012212acf959b35fd122bd5bc4eff7fa7ec4ff3f473d74360", func := "lookout/lookouttop.TopUnfolded", spec := "topUnfolded", unfollowed := true, recurses := true, named := ["math/bits.divideError", "math/bits.overflowError"], apart := false, narrowed := true }
def TopUnfoldedUptoSaid : Prop := topUnfoldedUptoRow.holds Try.pinned (OpenSpec.upto topUnfoldedSpec)

/-- 'lookouttop.TopPeak', WHERE WHAT IT READS IS OF BULK AT MOST 1048576: true; the input reads as it did. -/
def topPeakUptoRow : OpenClaim := { program := "yteejnfjlfoeblaa", sum := "3de7f110d83e824012212acf959b35fd122bd5bc4eff7fa7ec4ff3f473d74360", func := "lookout/lookouttop.TopPeak", spec := "topPeak", inPlace := ["math.Float64frombits", "math.archTrunc", "math.Float64bits", "math.sqrt"], unfollowed := true, recurses := true, apart := false, narrowed := true }
def TopPeakUptoSaid : Prop := topPeakUptoRow.holds Try.pinned (OpenSpec.upto topPeakSpec)

end Rows
end Go.Proofs.Yteejnfjlfoeblaa
