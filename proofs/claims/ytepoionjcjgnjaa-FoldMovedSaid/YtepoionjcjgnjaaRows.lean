/-
  No cell of these rows narrows 'for every input' (looked for: loops, veiled, ifaces, maps, wideKeys, modest, calm, conditions, laid).
  DERIVED. THE GIVEN ROWS OF THIS SEAT. 7 by the template 'for every input the law returns true; each argument reads behind the call as it read before'; 0 by the template 'total and deterministic' (their statements: YtepoionjcjgnjaaTotals.lean).
  GIVEN WITH THE SEED: the statements are not yours to turn. If you find one false, say at which input.
  Laid BY PROGRAM, IN A SANDBOX (cutbox-rows.mjs): the forced cells as the released guide's own fill.sh prints them over the translation f6a6e79cff75396b… (all of the seat's roots in one cut). By AI agents, Wed Nov 11 2026. No macro, syntax, notation, axiom, sorry.
-/
import Derived.Test.YtepoionjcjgnjaaChecked
import GoSem.Claim
import GoSem.ClaimJoined
import GoSem.ClaimMapViews
import Derived.JoinedTies
import Derived.KernelRfl
namespace Go.Proofs.Ytepoionjcjgnjaa
/- THE CELL 'sum', in the pinned program and in every row, IS THE sha256 OF THE DUMP (.gsa) THAT YtepoionjcjgnjaaProg.lean LOADS. Nothing in Lean hashes anything: it is a label: what it is worth is what the hold of that sum in a sandbox is worth. -/
noncomputable def Try.pinned : Pinned := { name := "ytepoionjcjgnjaa", sum := "f6a6e79cff75396b0681651bb1e8b3f183913902a0cc24e4ee315686d1e64e9e", checked := Try.checked }
namespace Rows
def none {H : Type} : Left H := { results := [], args := [] }

/-- 'lookoutlaw10.FoldGcds': WHATEVER THE INPUT: true; the input reads as it did. -/
def foldGcdsSpec : ChangeSpec := { name := "foldGcds", fn := fun _ => fun
  | [d1, d2] => { results := [.lit (.bool true)], args := [d1, d2] }
  | _ => none }
def foldGcdsRow : OpenClaim := { program := "ytepoionjcjgnjaa", sum := "f6a6e79cff75396b0681651bb1e8b3f183913902a0cc24e4ee315686d1e64e9e", func := "lookout/lookoutlaw10.FoldGcds", spec := "foldGcds", named := ["math/bits.divideError", "math/bits.overflowError"], apart := false }
def FoldGcdsSaid : Prop := foldGcdsRow.holds Try.pinned (OpenSpec.ofChange foldGcdsSpec)

/-- ITS FALSE NEIGHBOUR: 'it returns false'. Refute it at one input. -/
def foldGcdsWrong : ChangeSpec := { name := "foldGcds", fn := fun _ => fun
  | [d1, d2] => { results := [.lit (.bool false)], args := [d1, d2] }
  | _ => none }
def FoldGcdsWrongFalsely : Prop := foldGcdsRow.holds Try.pinned (OpenSpec.ofChange foldGcdsWrong)

/-- 'lookoutlaw10.FoldJoins': WHATEVER THE INPUT: true; the input reads as it did. -/
def foldJoinsSpec : ChangeSpec := { name := "foldJoins", fn := fun _ => fun
  | [d1, d2] => { results := [.lit (.bool true)], args := [d1, d2] }
  | _ => none }
def foldJoinsRow : OpenClaim := { program := "ytepoionjcjgnjaa", sum := "f6a6e79cff75396b0681651bb1e8b3f183913902a0cc24e4ee315686d1e64e9e", func := "lookout/lookoutlaw10.FoldJoins", spec := "foldJoins", named := ["math/bits.divideError", "math/bits.overflowError"], apart := false }
def FoldJoinsSaid : Prop := foldJoinsRow.holds Try.pinned (OpenSpec.ofChange foldJoinsSpec)

/-- ITS FALSE NEIGHBOUR: 'it returns false'. Refute it at one input. -/
def foldJoinsWrong : ChangeSpec := { name := "foldJoins", fn := fun _ => fun
  | [d1, d2] => { results := [.lit (.bool false)], args := [d1, d2] }
  | _ => none }
def FoldJoinsWrongFalsely : Prop := foldJoinsRow.holds Try.pinned (OpenSpec.ofChange foldJoinsWrong)

/-- 'lookoutlaw10.FoldNears': WHATEVER THE INPUT: true; the input reads as it did. -/
def foldNearsSpec : ChangeSpec := { name := "foldNears", fn := fun _ => fun
  | [d] => { results := [.lit (.bool true)], args := [d] }
  | _ => none }
def foldNearsRow : OpenClaim := { program := "ytepoionjcjgnjaa", sum := "f6a6e79cff75396b0681651bb1e8b3f183913902a0cc24e4ee315686d1e64e9e", func := "lookout/lookoutlaw10.FoldNears", spec := "foldNears", named := ["math/bits.divideError", "math/bits.overflowError"], apart := false }
def FoldNearsSaid : Prop := foldNearsRow.holds Try.pinned (OpenSpec.ofChange foldNearsSpec)

/-- ITS FALSE NEIGHBOUR: 'it returns false'. Refute it at one input. -/
def foldNearsWrong : ChangeSpec := { name := "foldNears", fn := fun _ => fun
  | [d] => { results := [.lit (.bool false)], args := [d] }
  | _ => none }
def FoldNearsWrongFalsely : Prop := foldNearsRow.holds Try.pinned (OpenSpec.ofChange foldNearsWrong)

/-- 'lookoutlaw10.FoldDivides': WHATEVER THE INPUT: true; the input reads as it did. -/
def foldDividesSpec : ChangeSpec := { name := "foldDivides", fn := fun _ => fun
  | [d1, d2] => { results := [.lit (.bool true)], args := [d1, d2] }
  | _ => none }
def foldDividesRow : OpenClaim := { program := "ytepoionjcjgnjaa", sum := "f6a6e79cff75396b0681651bb1e8b3f183913902a0cc24e4ee315686d1e64e9e", func := "lookout/lookoutlaw10.FoldDivides", spec := "foldDivides", named := ["math/bits.divideError", "math/bits.overflowError"], apart := false }
def FoldDividesSaid : Prop := foldDividesRow.holds Try.pinned (OpenSpec.ofChange foldDividesSpec)

/-- ITS FALSE NEIGHBOUR: 'it returns false'. Refute it at one input. -/
def foldDividesWrong : ChangeSpec := { name := "foldDivides", fn := fun _ => fun
  | [d1, d2] => { results := [.lit (.bool false)], args := [d1, d2] }
  | _ => none }
def FoldDividesWrongFalsely : Prop := foldDividesRow.holds Try.pinned (OpenSpec.ofChange foldDividesWrong)

/-- 'lookoutlaw10.FoldBack': WHATEVER THE INPUT: true; the input reads as it did. -/
def foldBackSpec : ChangeSpec := { name := "foldBack", fn := fun _ => fun
  | [d1, d2] => { results := [.lit (.bool true)], args := [d1, d2] }
  | _ => none }
def foldBackRow : OpenClaim := { program := "ytepoionjcjgnjaa", sum := "f6a6e79cff75396b0681651bb1e8b3f183913902a0cc24e4ee315686d1e64e9e", func := "lookout/lookoutlaw10.FoldBack", spec := "foldBack", named := ["math/bits.divideError", "math/bits.overflowError"], apart := false }
def FoldBackSaid : Prop := foldBackRow.holds Try.pinned (OpenSpec.ofChange foldBackSpec)

/-- ITS FALSE NEIGHBOUR: 'it returns false'. Refute it at one input. -/
def foldBackWrong : ChangeSpec := { name := "foldBack", fn := fun _ => fun
  | [d1, d2] => { results := [.lit (.bool false)], args := [d1, d2] }
  | _ => none }
def FoldBackWrongFalsely : Prop := foldBackRow.holds Try.pinned (OpenSpec.ofChange foldBackWrong)

/-- 'lookoutlaw10.FoldTogether': WHATEVER THE INPUT: true; the input reads as it did. -/
def foldTogetherSpec : ChangeSpec := { name := "foldTogether", fn := fun _ => fun
  | [d1, d2] => { results := [.lit (.bool true)], args := [d1, d2] }
  | _ => none }
def foldTogetherRow : OpenClaim := { program := "ytepoionjcjgnjaa", sum := "f6a6e79cff75396b0681651bb1e8b3f183913902a0cc24e4ee315686d1e64e9e", func := "lookout/lookoutlaw10.FoldTogether", spec := "foldTogether", named := ["math/bits.divideError", "math/bits.overflowError"], apart := false }
def FoldTogetherSaid : Prop := foldTogetherRow.holds Try.pinned (OpenSpec.ofChange foldTogetherSpec)

/-- ITS FALSE NEIGHBOUR: 'it returns false'. Refute it at one input. -/
def foldTogetherWrong : ChangeSpec := { name := "foldTogether", fn := fun _ => fun
  | [d1, d2] => { results := [.lit (.bool false)], args := [d1, d2] }
  | _ => none }
def FoldTogetherWrongFalsely : Prop := foldTogetherRow.holds Try.pinned (OpenSpec.ofChange foldTogetherWrong)

/-- 'lookoutlaw10.FoldMoved': WHATEVER THE INPUT: true; the input reads as it did. -/
def foldMovedSpec : ChangeSpec := { name := "foldMoved", fn := fun _ => fun
  | [d1, d2, d3, d4] => { results := [.lit (.bool true)], args := [d1, d2, d3, d4] }
  | _ => none }
def foldMovedRow : OpenClaim := { program := "ytepoionjcjgnjaa", sum := "f6a6e79cff75396b0681651bb1e8b3f183913902a0cc24e4ee315686d1e64e9e", func := "lookout/lookoutlaw10.FoldMoved", spec := "foldMoved", named := ["math/bits.divideError", "math/bits.overflowError"], apart := false }
def FoldMovedSaid : Prop := foldMovedRow.holds Try.pinned (OpenSpec.ofChange foldMovedSpec)

/-- ITS FALSE NEIGHBOUR: 'it returns false'. Refute it at one input. -/
def foldMovedWrong : ChangeSpec := { name := "foldMoved", fn := fun _ => fun
  | [d1, d2, d3, d4] => { results := [.lit (.bool false)], args := [d1, d2, d3, d4] }
  | _ => none }
def FoldMovedWrongFalsely : Prop := foldMovedRow.holds Try.pinned (OpenSpec.ofChange foldMovedWrong)

/- THE SECOND FORM. 'bulk': how many values and letters a reading holds, each counted each time it is reached (what is shared counts as often as it is met; a slice's spare places count too). A statement '..UptoSaid' is the law's where the arguments, and the package variables that the reading takes, are together of bulk at most 1048576: NARROWER than '..Said'. Prove '..Said' where nothing that the law and all that it calls make is longer than what came in: it says more and counts as full. Else prove '..UptoSaid'. A law counts once. -/
mutual
def uptoBulk {H : Type} : DataW H → Nat
  | .lit (.string bytes) => bytes.length + 1
  | .lit _ => 1
  | .nil => 1
  | .ptr d => uptoBulk d + 1
  | .slice elems spare => uptoBulkAll elems + uptoBulkAll spare + 1
  | .agg parts => uptoBulkAll parts + 1
  | .iface _ d => uptoBulk d + 1
  | .map entries => uptoBulkEntries entries + 1
  | .held _ => 1
def uptoBulkAll {H : Type} : List (DataW H) → Nat
  | [] => 0
  | d :: r => uptoBulk d + uptoBulkAll r
def uptoBulkEntries {H : Type} : List (Lit × DataW H) → Nat
  | [] => 0
  | x :: r => uptoBulkEntry x + uptoBulkEntries r
def uptoBulkEntry {H : Type} : Lit × DataW H → Nat
  | (.string bytes, d) => bytes.length + uptoBulk d + 1
  | (_, d) => uptoBulk d + 1
 end
def uptoSmall : (H : Type) → List (DataW H) → Bool := fun _ ds => decide (uptoBulkAll ds ≤ 1048576)
def OpenSpec.upto (s : _root_.Go.ChangeSpec) : _root_.Go.OpenSpec := { _root_.Go.OpenSpec.ofChange s with cond := some uptoSmall }

/-- 'lookoutlaw10.FoldGcds', WHERE WHAT IT READS IS OF BULK AT MOST 1048576: true; the input reads as it did. -/
def foldGcdsUptoRow : OpenClaim := { program := "ytepoionjcjgnjaa", sum := "f6a6e79cff75396b0681651bb1e8b3f183913902a0cc24e4ee315686d1e64e9e", func := "lookout/lookoutlaw10.FoldGcds", spec := "foldGcds", named := ["math/bits.divideError", "math/bits.overflowError"], apart := false, narrowed := true }
def FoldGcdsUptoSaid : Prop := foldGcdsUptoRow.holds Try.pinned (OpenSpec.upto foldGcdsSpec)

/-- 'lookoutlaw10.FoldJoins', WHERE WHAT IT READS IS OF BULK AT MOST 1048576: true; the input reads as it did. -/
def foldJoinsUptoRow : OpenClaim := { program := "ytepoionjcjgnjaa", sum := "f6a6e79cff75396b0681651bb1e8b3f183913902a0cc24e4ee315686d1e64e9e", func := "lookout/lookoutlaw10.FoldJoins", spec := "foldJoins", named := ["math/bits.divideError", "math/bits.overflowError"], apart := false, narrowed := true }
def FoldJoinsUptoSaid : Prop := foldJoinsUptoRow.holds Try.pinned (OpenSpec.upto foldJoinsSpec)

/-- 'lookoutlaw10.FoldNears', WHERE WHAT IT READS IS OF BULK AT MOST 1048576: true; the input reads as it did. -/
def foldNearsUptoRow : OpenClaim := { program := "ytepoionjcjgnjaa", sum := "f6a6e79cff75396b0681651bb1e8b3f183913902a0cc24e4ee315686d1e64e9e", func := "lookout/lookoutlaw10.FoldNears", spec := "foldNears", named := ["math/bits.divideError", "math/bits.overflowError"], apart := false, narrowed := true }
def FoldNearsUptoSaid : Prop := foldNearsUptoRow.holds Try.pinned (OpenSpec.upto foldNearsSpec)

/-- 'lookoutlaw10.FoldDivides', WHERE WHAT IT READS IS OF BULK AT MOST 1048576: true; the input reads as it did. -/
def foldDividesUptoRow : OpenClaim := { program := "ytepoionjcjgnjaa", sum := "f6a6e79cff75396b0681651bb1e8b3f183913902a0cc24e4ee315686d1e64e9e", func := "lookout/lookoutlaw10.FoldDivides", spec := "foldDivides", named := ["math/bits.divideError", "math/bits.overflowError"], apart := false, narrowed := true }
def FoldDividesUptoSaid : Prop := foldDividesUptoRow.holds Try.pinned (OpenSpec.upto foldDividesSpec)

/-- 'lookoutlaw10.FoldBack', WHERE WHAT IT READS IS OF BULK AT MOST 1048576: true; the input reads as it did. -/
def foldBackUptoRow : OpenClaim := { program := "ytepoionjcjgnjaa", sum := "f6a6e79cff75396b0681651bb1e8b3f183913902a0cc24e4ee315686d1e64e9e", func := "lookout/lookoutlaw10.FoldBack", spec := "foldBack", named := ["math/bits.divideError", "math/bits.overflowError"], apart := false, narrowed := true }
def FoldBackUptoSaid : Prop := foldBackUptoRow.holds Try.pinned (OpenSpec.upto foldBackSpec)

/-- 'lookoutlaw10.FoldTogether', WHERE WHAT IT READS IS OF BULK AT MOST 1048576: true; the input reads as it did. -/
def foldTogetherUptoRow : OpenClaim := { program := "ytepoionjcjgnjaa", sum := "f6a6e79cff75396b0681651bb1e8b3f183913902a0cc24e4ee315686d1e64e9e", func := "lookout/lookoutlaw10.FoldTogether", spec := "foldTogether", named := ["math/bits.divideError", "math/bits.overflowError"], apart := false, narrowed := true }
def FoldTogetherUptoSaid : Prop := foldTogetherUptoRow.holds Try.pinned (OpenSpec.upto foldTogetherSpec)

/-- 'lookoutlaw10.FoldMoved', WHERE WHAT IT READS IS OF BULK AT MOST 1048576: true; the input reads as it did. -/
def foldMovedUptoRow : OpenClaim := { program := "ytepoionjcjgnjaa", sum := "f6a6e79cff75396b0681651bb1e8b3f183913902a0cc24e4ee315686d1e64e9e", func := "lookout/lookoutlaw10.FoldMoved", spec := "foldMoved", named := ["math/bits.divideError", "math/bits.overflowError"], apart := false, narrowed := true }
def FoldMovedUptoSaid : Prop := foldMovedUptoRow.holds Try.pinned (OpenSpec.upto foldMovedSpec)

end Rows
end Go.Proofs.Ytepoionjcjgnjaa
