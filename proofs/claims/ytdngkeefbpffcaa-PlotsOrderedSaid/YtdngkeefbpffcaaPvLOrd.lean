/-
  What is proved: the law PlotsOrdered returns true, whatever its arguments. Conditions: those of the statement alone.
-/
import Derived.Test.YtdngkeefbpffcaaPvS
import Derived.Test.YtdngkeefbpffcaaPlZ
import Derived.Test.YtdngkeefbpffcaaRows
set_option autoImplicit false
set_option linter.unusedVariables false
namespace Go.Proofs.Ytdngkeefbpffcaa
open Go.RowKit Go.ChangeShapes Go.WideShapes Go.ChangeAt Lk Pl
set_option maxRecDepth 100000 in
theorem ordered_args (W : World) (base : Nat) (args : Array Value) (hsz : args.size = Try.f7.params.size) (hval : ∀ (j : Nat) t v, Try.f7.params[j]? = some t → args[j]? = some v → Value.okWide Try.prog W .any base t v) (hrd : ∀ (j : Nat) t v, Try.f7.params[j]? = some t → args[j]? = some v → Rd Try.prog W t v.cells.toList) :
    Calls Try.prog 7 args W (fun e w' => e = .returned (.bool true) ∧ Below W.heap.size W w') := by
  rw [Try.params7] at hval hsz hrd
  obtain ⟨l⟩ := args
  match l, hsz with
  | [v0, v1], _ =>
    obtain ⟨a0, n0, c0, M0, rfl, s0, t0⟩ := sp_arg (hval 0 47 v0 rfl rfl) (hrd 0 47 v0 rfl rfl)
    obtain ⟨x1, rfl, lo1, hi1⟩ := ok_int (t := 3) Try.underlying3 (hval 1 3 v1 rfl rfl)
    exact ordered_law a0 n0 c0 M0 x1 W s0

set_option maxRecDepth 100000 in
theorem ordered_lifted (os : Os) (started : os.Started) (H : Type) (enc : TypeId × Value → H) :
    ReturnsInHanded {} Try.checked os 7 .any (Rows.plotsOrderedSpec.pre6 enc Try.prog Try.f7 Rows.plotsOrderedRow.domain false) (Rows.plotsOrderedSpec.post enc Try.prog Try.f7 false true false false) :=
  law_lifted_s (C := Try.checked) Try.own started (by kernel_rfl) Try.func7
    (ChangeSpec.witness6 (enc := enc) (C := Try.checked) false ⟨#[], #[.slice none 0 0, .int .i64 0], []⟩ 8 (by kernel_rfl) (by kernel_rfl) (by kernel_rfl) (by kernel_rfl))
    Try.laidOut (fun t ht => by have ht2 : t ∈ Try.f7.params.toList := ht; rw [Try.params7] at ht2; simp only [List.mem_cons, List.not_mem_nil, or_false] at ht2; rcases ht2 with rfl | rfl <;> exact ⟨by kernel_rfl, of_decide_eq_true (by kernel_rfl)⟩)
    rfl Try.underlying4 rfl (fun ds hd => by have hd2 : ds.length = Try.f7.params.size := hd; rw [Try.params7] at hd2; match ds, hd2 with | [d0, d1], _ => exact ⟨rfl, rfl, rfl⟩) ordered_args

theorem ordered_holds : Rows.PlotsOrderedSaid :=
  OpenClaim.holds_of_wide 7 Try.f7 rfl rfl rfl rfl rfl rfl rfl ⟨rfl, rfl, rfl, rfl, rfl⟩ rfl rfl rfl rfl rfl (by kernel_rfl) Try.func7 (by kernel_rfl)
    (of_decide_eq_true (by kernel_rfl)) (by unfold Func.isWrapper; first | (rw [if_pos (by decide +kernel)]; kernel_rfl) | (rw [if_neg (by decide +kernel)]; exact ⟨rfl, rfl⟩))
    (fun os started H enc _ => ordered_lifted os started H enc)
#print axioms ordered_holds
end Go.Proofs.Ytdngkeefbpffcaa
