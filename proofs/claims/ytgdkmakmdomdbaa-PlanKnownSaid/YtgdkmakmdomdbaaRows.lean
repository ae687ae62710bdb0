/-
  No cell of these rows narrows 'for every input' (looked for: loops, veiled, ifaces, maps, wideKeys, modest, calm, conditions, laid).
  DERIVED. THE GIVEN ROWS OF THIS SEAT. 6 by the template 'for every input the law returns true; each argument reads behind the call as it read before'; 0 by the template 'total and deterministic' (their statements: YtgdkmakmdomdbaaTotals.lean).
  GIVEN WITH THE SEED: the statements are not yours to turn. If you find one false, say at which input.
  Laid BY PROGRAM, IN A SANDBOX (cutbox-rows.mjs): the forced cells as the released guide's own fill.sh prints them over the translation 27b642406f9f7cd7… (all of the seat's roots in one cut). By AI agents, Wed Nov 11 2026. No macro, syntax, notation, axiom, sorry.
-/
import Derived.Test.YtgdkmakmdomdbaaChecked
import GoSem.Claim
import GoSem.ClaimJoined
import GoSem.ClaimMapViews
import Derived.JoinedTies
import Derived.KernelRfl
namespace Go.Proofs.Ytgdkmakmdomdbaa
/- THE CELL 'sum', in the pinned program and in every row, IS THE sha256 OF THE DUMP (.gsa) THAT YtgdkmakmdomdbaaProg.lean LOADS. Nothing in Lean hashes anything: it is a label: what it is worth is what the hold of that sum in a sandbox is worth. -/
noncomputable def Try.pinned : Pinned := { name := "ytgdkmakmdomdbaa", sum := "27b642406f9f7cd734b61c2aeff4b20c0543fd96dff134576fb539b9f14bf3c9", checked := Try.checked }
namespace Rows
def none {H : Type} : Left H := { results := [], args := [] }

/-- 'lookoutlaw24.PlanPlays': WHATEVER THE INPUT: true; the input reads as it did. -/
def planPlaysSpec : ChangeSpec := { name := "planPlays", fn := fun _ => fun
  | [d1, d2] => { results := [.lit (.bool true)], args := [d1, d2] }
  | _ => none }
def planPlaysRow : OpenClaim := { program := "ytgdkmakmdomdbaa", sum := "27b642406f9f7cd734b61c2aeff4b20c0543fd96dff134576fb539b9f14bf3c9", func := "lookout/lookoutlaw24.PlanPlays", spec := "planPlays", unfollowed := true, recurses := true, apart := false }
def PlanPlaysSaid : Prop := planPlaysRow.holds Try.pinned (OpenSpec.ofChange planPlaysSpec)

/-- ITS FALSE NEIGHBOUR: 'it returns false'. Refute it at one input. -/
def planPlaysWrong : ChangeSpec := { name := "planPlays", fn := fun _ => fun
  | [d1, d2] => { results := [.lit (.bool false)], args := [d1, d2] }
  | _ => none }
def PlanPlaysWrongFalsely : Prop := planPlaysRow.holds Try.pinned (OpenSpec.ofChange planPlaysWrong)

/-- 'lookoutlaw24.PlanNil': WHATEVER THE INPUT: true; the input reads as it did. -/
def planNilSpec : ChangeSpec := { name := "planNil", fn := fun _ => fun
  | [d1, d2, d3] => { results := [.lit (.bool true)], args := [d1, d2, d3] }
  | _ => none }
def planNilRow : OpenClaim := { program := "ytgdkmakmdomdbaa", sum := "27b642406f9f7cd734b61c2aeff4b20c0543fd96dff134576fb539b9f14bf3c9", func := "lookout/lookoutlaw24.PlanNil", spec := "planNil", unfollowed := true, recurses := true, apart := false }
def PlanNilSaid : Prop := planNilRow.holds Try.pinned (OpenSpec.ofChange planNilSpec)

/-- ITS FALSE NEIGHBOUR: 'it returns false'. Refute it at one input. -/
def planNilWrong : ChangeSpec := { name := "planNil", fn := fun _ => fun
  | [d1, d2, d3] => { results := [.lit (.bool false)], args := [d1, d2, d3] }
  | _ => none }
def PlanNilWrongFalsely : Prop := planNilRow.holds Try.pinned (OpenSpec.ofChange planNilWrong)

/-- 'lookoutlaw24.PlanInTime': WHATEVER THE INPUT: true; the input reads as it did. -/
def planInTimeSpec : ChangeSpec := { name := "planInTime", fn := fun _ => fun
  | [d1, d2] => { results := [.lit (.bool true)], args := [d1, d2] }
  | _ => none }
def planInTimeRow : OpenClaim := { program := "ytgdkmakmdomdbaa", sum := "27b642406f9f7cd734b61c2aeff4b20c0543fd96dff134576fb539b9f14bf3c9", func := "lookout/lookoutlaw24.PlanInTime", spec := "planInTime", unfollowed := true, recurses := true, apart := false }
def PlanInTimeSaid : Prop := planInTimeRow.holds Try.pinned (OpenSpec.ofChange planInTimeSpec)

/-- ITS FALSE NEIGHBOUR: 'it returns false'. Refute it at one input. -/
def planInTimeWrong : ChangeSpec := { name := "planInTime", fn := fun _ => fun
  | [d1, d2] => { results := [.lit (.bool false)], args := [d1, d2] }
  | _ => none }
def PlanInTimeWrongFalsely : Prop := planInTimeRow.holds Try.pinned (OpenSpec.ofChange planInTimeWrong)

/-- 'lookoutlaw24.PlanRows': WHATEVER THE INPUT: true; the input reads as it did. -/
def planRowsSpec : ChangeSpec := { name := "planRows", fn := fun _ => fun
  | [d1, d2, d3] => { results := [.lit (.bool true)], args := [d1, d2, d3] }
  | _ => none }
def planRowsRow : OpenClaim := { program := "ytgdkmakmdomdbaa", sum := "27b642406f9f7cd734b61c2aeff4b20c0543fd96dff134576fb539b9f14bf3c9", func := "lookout/lookoutlaw24.PlanRows", spec := "planRows", unfollowed := true, recurses := true, apart := false }
def PlanRowsSaid : Prop := planRowsRow.holds Try.pinned (OpenSpec.ofChange planRowsSpec)

/-- ITS FALSE NEIGHBOUR: 'it returns false'. Refute it at one input. -/
def planRowsWrong : ChangeSpec := { name := "planRows", fn := fun _ => fun
  | [d1, d2, d3] => { results := [.lit (.bool false)], args := [d1, d2, d3] }
  | _ => none }
def PlanRowsWrongFalsely : Prop := planRowsRow.holds Try.pinned (OpenSpec.ofChange planRowsWrong)

/-- 'lookoutlaw24.PlanShares': WHATEVER THE INPUT: true; the input reads as it did. -/
def planSharesSpec : ChangeSpec := { name := "planShares", fn := fun _ => fun
  | [d] => { results := [.lit (.bool true)], args := [d] }
  | _ => none }
def planSharesRow : OpenClaim := { program := "ytgdkmakmdomdbaa", sum := "27b642406f9f7cd734b61c2aeff4b20c0543fd96dff134576fb539b9f14bf3c9", func := "lookout/lookoutlaw24.PlanShares", spec := "planShares", unfollowed := true, recurses := true, apart := false }
def PlanSharesSaid : Prop := planSharesRow.holds Try.pinned (OpenSpec.ofChange planSharesSpec)

/-- ITS FALSE NEIGHBOUR: 'it returns false'. Refute it at one input. -/
def planSharesWrong : ChangeSpec := { name := "planShares", fn := fun _ => fun
  | [d] => { results := [.lit (.bool false)], args := [d] }
  | _ => none }
def PlanSharesWrongFalsely : Prop := planSharesRow.holds Try.pinned (OpenSpec.ofChange planSharesWrong)

/-- 'lookoutlaw24.PlanKnown': WHATEVER THE INPUT: true; the input reads as it did. -/
def planKnownSpec : ChangeSpec := { name := "planKnown", fn := fun _ => fun
  | [] => { results := [.lit (.bool true)], args := [] }
  | _ => none }
def planKnownRow : OpenClaim := { program := "ytgdkmakmdomdbaa", sum := "27b642406f9f7cd734b61c2aeff4b20c0543fd96dff134576fb539b9f14bf3c9", func := "lookout/lookoutlaw24.PlanKnown", spec := "planKnown", unfollowed := true, recurses := true, apart := false }
def PlanKnownSaid : Prop := planKnownRow.holds Try.pinned (OpenSpec.ofChange planKnownSpec)

/-- ITS FALSE NEIGHBOUR: 'it returns false'. Refute it at one input. -/
def planKnownWrong : ChangeSpec := { name := "planKnown", fn := fun _ => fun
  | [] => { results := [.lit (.bool false)], args := [] }
  | _ => none }
def PlanKnownWrongFalsely : Prop := planKnownRow.holds Try.pinned (OpenSpec.ofChange planKnownWrong)

/- THE SECOND FORM. 'bulk': how many values and letters a reading holds, each counted each time it is reached (what is shared counts as often as it is met; a slice's spare places count too). A statement '..UptoSaid' is the law's where the arguments, and the package variables that the reading takes, are together of bulk at most 1048576: NARROWER than '..Said'. Prove '..Said' where nothing that the law and all that it calls make is longer than what came in: it says more and counts as full. Else prove '..UptoSaid'. A law counts once. -/
mutual
def uptoBulk {H : Type} : DataW H → Nat
  | .lit (.string bytes) => bytes.length + 1
  | .lit _ => 1
  | .nil => 1
  | .ptr d => uptoBulk d + 1
  | .slice elems spare => uptoBulkAll elems + uptoBulkAll spare + 1
  | .agg parts => uptoBulkAll parts + 1
  | .iface _ d => uptoBulk d + 1
  | .map entries => uptoBulkEntries entries + 1
  | .held _ => 1
def uptoBulkAll {H : Type} : List (DataW H) → Nat
  | [] => 0
  | d :: r => uptoBulk d + uptoBulkAll r
def uptoBulkEntries {H : Type} : List (Lit × DataW H) → Nat
  | [] => 0
  | x :: r => uptoBulkEntry x + uptoBulkEntries r
def uptoBulkEntry {H : Type} : Lit × DataW H → Nat
  | (.string bytes, d) => bytes.length + uptoBulk d + 1
  | (_, d) => uptoBulk d + 1
 end
def uptoSmall : (H : Type) → List (DataW H) → Bool := fun _ ds => decide (uptoBulkAll ds ≤ 1048576)
def OpenSpec.upto (s : _root_.Go.ChangeSpec) : _root_.Go.OpenSpec := { _root_.Go.OpenSpec.ofChange s with cond := some uptoSmall }

/-- 'lookoutlaw24.PlanPlays', WHERE WHAT IT READS IS OF BULK AT MOST 1048576: true; the input reads as it did. -/
def planPlaysUptoRow : OpenClaim := { program := "ytgdkmakmdomdbaa", sum := "27b642406f9f7cd734b61c2aeff4b20c0543fd96dff134576fb539b9f14bf3c9", func := "lookout/lookoutlaw24.PlanPlays", spec := "planPlays", unfollowed := true, recurses := true, apart := false, narrowed := true }
def PlanPlaysUptoSaid : Prop := planPlaysUptoRow.holds Try.pinned (OpenSpec.upto planPlaysSpec)

/-- 'lookoutlaw24.PlanNil', WHERE WHAT IT READS IS OF BULK AT MOST 1048576: true; the input reads as it did. -/
def planNilUptoRow : OpenClaim := { program := "ytgdkmakmdomdbaa", sum := "27b642406f9f7cd734b61c2aeff4b20c0543fd96dff134576fb539b9f14bf3c9", func := "lookout/lookoutlaw24.PlanNil", spec := "planNil", unfollowed := true, recurses := true, apart := false, narrowed := true }
def PlanNilUptoSaid : Prop := planNilUptoRow.holds Try.pinned (OpenSpec.upto planNilSpec)

/-- 'lookoutlaw24.PlanInTime', WHERE WHAT IT READS IS OF BULK AT MOST 1048576: true; the input reads as it did. -/
def planInTimeUptoRow : OpenClaim := { program := "ytgdkmakmdomdbaa", sum := "27b642406f9f7cd734b61c2aeff4b20c0543fd96dff134576fb539b9f14bf3c9", func := "lookout/lookoutlaw24.PlanInTime", spec := "planInTime", unfollowed := true, recurses := true, apart := false, narrowed := true }
def PlanInTimeUptoSaid : Prop := planInTimeUptoRow.holds Try.pinned (OpenSpec.upto planInTimeSpec)

/-- 'lookoutlaw24.PlanRows', WHERE WHAT IT READS IS OF BULK AT MOST 1048576: true; the input reads as it did. -/
def planRowsUptoRow : OpenClaim := { program := "ytgdkmakmdomdbaa", sum := "27b642406f9f7cd734b61c2aeff4b20c0543fd96dff134576fb539b9f14bf3c9", func := "lookout/lookoutlaw24.PlanRows", spec := "planRows", unfollowed := true, recurses := true, apart := false, narrowed := true }
def PlanRowsUptoSaid : Prop := planRowsUptoRow.holds Try.pinned (OpenSpec.upto planRowsSpec)

/-- 'lookoutlaw24.PlanShares', WHERE WHAT IT READS IS OF BULK AT MOST 1048576: true; the input reads as it did. -/
def planSharesUptoRow : OpenClaim := { program := "ytgdkmakmdomdbaa", sum := "27b642406f9f7cd734b61c2aeff4b20c0543fd96dff134576fb539b9f14bf3c9", func := "lookout/lookoutlaw24.PlanShares", spec := "planShares", unfollowed := true, recurses := true, apart := false, narrowed := true }
def PlanSharesUptoSaid : Prop := planSharesUptoRow.holds Try.pinned (OpenSpec.upto planSharesSpec)

/-- 'lookoutlaw24.PlanKnown', WHERE WHAT IT READS IS OF BULK AT MOST 1048576: true; the input reads as it did. -/
def planKnownUptoRow : OpenClaim := { program := "ytgdkmakmdomdbaa", sum := "27b642406f9f7cd734b61c2aeff4b20c0543fd96dff134576fb539b9f14bf3c9", func := "lookout/lookoutlaw24.PlanKnown", spec := "planKnown", unfollowed := true, recurses := true, apart := false, narrowed := true }
def PlanKnownUptoSaid : Prop := planKnownUptoRow.holds Try.pinned (OpenSpec.upto planKnownSpec)

end Rows
end Go.Proofs.Ytgdkmakmdomdbaa
