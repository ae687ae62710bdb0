import Derived.Test.YtakkdkgbkedliaaGaF
import Derived.Test.YtakkdkgbkedliaaFlL
import Derived.ProofKit
import Derived.OpenShut
set_option autoImplicit false
set_option linter.unusedVariables false
namespace Go.Proofs.Ytakkdkgbkedliaa
open Go.RowKit Go.ChangeShapes Go.WideShapes Go.ChangeAt Lk
theorem Try.own : ownKnob Try.prog.godebug = none := by kernel_rfl
theorem Try.laidOut : laidOutB Try.prog = true := by kernel_rfl
/-- what both tests of a beat hand back -/
structure TC (z : Int) (f : FuncId) (args : Array Value) (u : Value) (w : World) : Prop where
  a : u = .int .i64 z
/-- a beat in its cells -/
structure AtB (W : World) (B c v r : Nat) (e n : Int) : Prop where
  c0 : W.cell? ⟨B, 0, none⟩ = some (.float .f64 c)
  c1 : W.cell? ⟨B, 1, none⟩ = some (.float .f64 v)
  c2 : W.cell? ⟨B, 2, none⟩ = some (.float .f64 r)
  c3 : W.cell? ⟨B, 3, none⟩ = some (.int .i64 e)
  c4 : W.cell? ⟨B, 4, none⟩ = some (.int .i64 n)
theorem AtB.keep {W w' : World} {B c v r : Nat} {e n : Int} (h : AtB W B c v r e n) (hB : B < W.heap.size) (hb : Below W.heap.size W w') : AtB w' B c v r e n :=
  ⟨(hb.cell (p := ⟨B, 0, none⟩) hB).trans h.c0, (hb.cell (p := ⟨B, 1, none⟩) hB).trans h.c1, (hb.cell (p := ⟨B, 2, none⟩) hB).trans h.c2, (hb.cell (p := ⟨B, 3, none⟩) hB).trans h.c3, (hb.cell (p := ⟨B, 4, none⟩) hB).trans h.c4⟩
theorem beat_of {w : World} {base : Nat} {u : Value} (h : Value.okWide Try.prog w .any base 24 u) :
    ∃ (c v r : Nat) (e n : Int), u = btv c v r e n ∧ c < 2 ^ 64 ∧ v < 2 ^ 64 ∧ r < 2 ^ 64 ∧ -9223372036854775808 ≤ e ∧ e ≤ 9223372036854775807 ∧ -9223372036854775808 ≤ n ∧ n ≤ 9223372036854775807 := by
  obtain ⟨⟨cs⟩, rfl, hs, hc⟩ := ok_agg (P := Try.prog) (t := 24) (ts := [22, 22, 22, 3, 3]) (by kernel_rfl) (by kernel_rfl) (by kernel_rfl) h
  match cs, hs with
  | [v0, v1, v2, v3, v4], _ =>
    obtain ⟨c, rfl, g1⟩ := cell_float (P := Try.prog) Try.underlying22 (hc 0 v0 22 rfl rfl)
    obtain ⟨v, rfl, g2⟩ := cell_float (P := Try.prog) Try.underlying22 (hc 1 v1 22 rfl rfl)
    obtain ⟨r, rfl, g3⟩ := cell_float (P := Try.prog) Try.underlying22 (hc 2 v2 22 rfl rfl)
    obtain ⟨e, rfl, b1, b2⟩ := cell_int (P := Try.prog) Try.underlying3 (hc 3 v3 3 rfl rfl)
    obtain ⟨n, rfl, b3, b4⟩ := cell_int (P := Try.prog) Try.underlying3 (hc 4 v4 3 rfl rfl)
    exact ⟨c, v, r, e, n, rfl, g1, g2, g3, b1, b2, b3, b4⟩
theorem sameF_refl (x : Nat) : sameF x x = true := sameF_is (Is.refl x)
end Go.Proofs.Ytakkdkgbkedliaa
