import Derived.Test.YtgdkmakmdomdbaaPnWa
import Derived.Test.YtgdkmakmdomdbaaFlL
import Derived.ProofKit
import Derived.OpenShut
set_option autoImplicit false
set_option linter.unusedVariables false
namespace Go.Proofs.Ytgdkmakmdomdbaa
open Go.RowKit Go.ChangeShapes Go.WideShapes Go.ChangeAt Lk
/-- the bounds of a task handed in -/
structure TkB (ev lg rk : Int) : Prop where
  a1 : -9223372036854775808 ≤ ev
  a2 : ev ≤ 9223372036854775807
  b1 : -9223372036854775808 ≤ lg
  b2 : lg ≤ 9223372036854775807
  c1 : -9223372036854775808 ≤ rk
  c2 : rk ≤ 9223372036854775807
set_option maxRecDepth 100000 in
theorem task_of {w : World} {base : Nat} {u : Value} (h : Value.okWide Try.prog w .any base 26 u) :
    ∃ (ev lg rk : Int), u = .agg #[.int .i64 ev, .int .i64 lg, .int .i64 rk] ∧ TkB ev lg rk := by
  obtain ⟨⟨cs⟩, rfl, hs, hc⟩ := ok_agg (P := Try.prog) (t := 26) (ts := [2, 2, 3]) (by kernel_rfl) (by kernel_rfl) (by kernel_rfl) h
  match cs, hs with
  | [v0, v1, v2], _ =>
    obtain ⟨a, rfl, a1, a2⟩ := cell_int (P := Try.prog) Try.underlying2 (hc 0 v0 2 rfl rfl)
    obtain ⟨b, rfl, b1, b2⟩ := cell_int (P := Try.prog) Try.underlying2 (hc 1 v1 2 rfl rfl)
    obtain ⟨c, rfl, c1, c2⟩ := cell_int (P := Try.prog) Try.underlying3 (hc 2 v2 3 rfl rfl)
    exact ⟨a, b, c, rfl, ⟨a1, a2, b1, b2, c1, c2⟩⟩
theorem Try.own : ownKnob Try.prog.godebug = none := by kernel_rfl
theorem Try.laidOut : laidOutB Try.prog = true := by kernel_rfl
end Go.Proofs.Ytgdkmakmdomdbaa
