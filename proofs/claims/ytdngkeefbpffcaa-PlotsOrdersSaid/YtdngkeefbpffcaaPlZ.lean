import Derived.Test.YtdngkeefbpffcaaPlT
import Derived.Test.YtdngkeefbpffcaaFlL
import Derived.ProofKit
import Derived.OpenShut
set_option autoImplicit false
set_option linter.unusedVariables false
namespace Go.Proofs.Ytdngkeefbpffcaa
open Go.RowKit Go.ChangeShapes Go.WideShapes Go.ChangeAt Lk Pl
set_option maxRecDepth 100000 in
theorem beat_of {w : World} {base : Nat} {u : Value} (h : Value.okWide Try.prog w .any base 24 u) :
    ∃ (c v r : Nat) (e n : Int), u = btv c v r e n ∧ c < 2 ^ 64 ∧ v < 2 ^ 64 ∧ r < 2 ^ 64 ∧ -9223372036854775808 ≤ e ∧ e ≤ 9223372036854775807 ∧ -9223372036854775808 ≤ n ∧ n ≤ 9223372036854775807 := by
  obtain ⟨⟨cs⟩, rfl, hs, hc⟩ := ok_agg (P := Try.prog) (t := 24) (ts := [22, 22, 22, 3, 3]) (by kernel_rfl) (by kernel_rfl) (by kernel_rfl) h
  match cs, hs with
  | [v0, v1, v2, v3, v4], _ =>
    obtain ⟨c, rfl, g1⟩ := cell_float (P := Try.prog) Try.underlying22 (hc 0 v0 22 rfl rfl)
    obtain ⟨v, rfl, g2⟩ := cell_float (P := Try.prog) Try.underlying22 (hc 1 v1 22 rfl rfl)
    obtain ⟨r, rfl, g3⟩ := cell_float (P := Try.prog) Try.underlying22 (hc 2 v2 22 rfl rfl)
    obtain ⟨e, rfl, b1, b2⟩ := cell_int (P := Try.prog) Try.underlying3 (hc 3 v3 3 rfl rfl)
    obtain ⟨n, rfl, b3, b4⟩ := cell_int (P := Try.prog) Try.underlying3 (hc 4 v4 3 rfl rfl)
    exact ⟨c, v, r, e, n, rfl, g1, g2, g3, b1, b2, b3, b4⟩
set_option maxRecDepth 100000 in
theorem centre_of {w : World} {base : Nat} {u : Value} (h : Value.okWide Try.prog w .any base 26 u) :
    ∃ (b g p : Nat) (n : Int), u = .agg #[.float .f64 b, .float .f64 g, .float .f64 p, .int .i64 n] ∧ b < 2 ^ 64 ∧ g < 2 ^ 64 ∧ p < 2 ^ 64 := by
  obtain ⟨⟨cs⟩, rfl, hs, hc⟩ := ok_agg (P := Try.prog) (t := 26) (ts := [22, 22, 22, 3]) (by kernel_rfl) (by kernel_rfl) (by kernel_rfl) h
  match cs, hs with
  | [v0, v1, v2, v3], _ =>
    obtain ⟨c, rfl, g1⟩ := cell_float (P := Try.prog) Try.underlying22 (hc 0 v0 22 rfl rfl)
    obtain ⟨v, rfl, g2⟩ := cell_float (P := Try.prog) Try.underlying22 (hc 1 v1 22 rfl rfl)
    obtain ⟨r, rfl, g3⟩ := cell_float (P := Try.prog) Try.underlying22 (hc 2 v2 22 rfl rfl)
    obtain ⟨e, rfl, b1, b2⟩ := cell_int (P := Try.prog) Try.underlying3 (hc 3 v3 3 rfl rfl)
    exact ⟨c, v, r, e, rfl, g1, g2, g3⟩
theorem Try.own : ownKnob Try.prog.godebug = none := by kernel_rfl
theorem Try.laidOut : laidOutB Try.prog = true := by kernel_rfl
end Go.Proofs.Ytdngkeefbpffcaa
