/-
  What is proved: the law PlanShares returns true, whatever its arguments. Conditions: those of the statement alone.
-/
import Derived.Test.YtgdkmakmdomdbaaPnSw
import Derived.Test.YtgdkmakmdomdbaaPnAr
import Derived.Test.YtgdkmakmdomdbaaFlL
import Derived.Test.YtgdkmakmdomdbaaRows
import Derived.ProofKit
import Derived.OpenShut
set_option autoImplicit false
set_option linter.unusedVariables false
namespace Go.Proofs.Ytgdkmakmdomdbaa
open Go.RowKit Go.ChangeShapes Go.WideShapes Go.ChangeAt Lk
set_option maxRecDepth 100000 in
theorem shares_args (W : World) (base : Nat) (args : Array Value) (hsz : args.size = Try.f7.params.size) (hval : ∀ (j : Nat) t v, Try.f7.params[j]? = some t → args[j]? = some v → Value.okWide Try.prog W .any base t v) (hrd : ∀ (j : Nat) t v, Try.f7.params[j]? = some t → args[j]? = some v → Rd Try.prog W t v.cells.toList) :
    Calls Try.prog 7 args W (fun e w' => e = .returned (.bool true) ∧ Below W.heap.size W w') := by
  rw [Try.params7] at hval hsz hrd
  obtain ⟨l⟩ := args
  match l, hsz with
  | [v0], _ =>
    obtain ⟨a0, n0, c0, M0, rfl, s0⟩ := ts_arg (hval 0 22 v0 rfl rfl) (hrd 0 22 v0 rfl rfl)
    exact shares_law a0 n0 c0 M0 W s0

set_option maxRecDepth 100000 in
theorem shares_lifted (os : Os) (started : os.Started) (H : Type) (enc : TypeId × Value → H) :
    ReturnsInHanded {} Try.checked os 7 .any (Rows.planSharesSpec.pre6 enc Try.prog Try.f7 Rows.planSharesRow.domain false) (Rows.planSharesSpec.post enc Try.prog Try.f7 false true false false) :=
  law_lifted_s (C := Try.checked) Try.own started (by kernel_rfl) Try.func7
    (ChangeSpec.witness6 (enc := enc) (C := Try.checked) false ⟨#[], #[.slice none 0 0], []⟩ 8 (by kernel_rfl) (by kernel_rfl) (by kernel_rfl) (by kernel_rfl))
    Try.laidOut (fun t ht => by have ht2 : t ∈ Try.f7.params.toList := ht; rw [Try.params7] at ht2; simp only [List.mem_cons, List.not_mem_nil, or_false] at ht2; subst ht2; exact ⟨by kernel_rfl, of_decide_eq_true (by kernel_rfl)⟩)
    rfl Try.underlying4 rfl (fun ds hd => by have hd2 : ds.length = Try.f7.params.size := hd; rw [Try.params7] at hd2; match ds, hd2 with | [d0], _ => exact ⟨rfl, rfl, rfl⟩) shares_args

theorem shares_holds : Rows.PlanSharesSaid :=
  OpenClaim.holds_of_wide 7 Try.f7 rfl rfl rfl rfl rfl rfl rfl ⟨rfl, rfl, rfl, rfl, rfl⟩ rfl rfl rfl rfl rfl (by kernel_rfl) Try.func7 (by kernel_rfl)
    (of_decide_eq_true (by kernel_rfl)) (by unfold Func.isWrapper; first | (rw [if_pos (by decide +kernel)]; kernel_rfl) | (rw [if_neg (by decide +kernel)]; exact ⟨rfl, rfl⟩))
    (fun os started H enc _ => shares_lifted os started H enc)
#print axioms shares_holds
end Go.Proofs.Ytgdkmakmdomdbaa
