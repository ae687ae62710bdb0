/-
  What is proved: the law PlanNil returns true, whatever its arguments. Conditions: those of the statement alone.
-/
import Derived.Test.YtgdkmakmdomdbaaPnQ
import Derived.Test.YtgdkmakmdomdbaaPnZ
import Derived.Test.YtgdkmakmdomdbaaFlL
import Derived.Test.YtgdkmakmdomdbaaRows
import Derived.ProofKit
import Derived.OpenShut
set_option autoImplicit false
set_option linter.unusedVariables false
namespace Go.Proofs.Ytgdkmakmdomdbaa
open Go.RowKit Go.ChangeShapes Go.WideShapes Go.ChangeAt Lk
set_option maxRecDepth 100000 in
theorem nil_args (W : World) (base : Nat) (args : Array Value) (hsz : args.size = Try.f4.params.size) (hval : ∀ (j : Nat) t v, Try.f4.params[j]? = some t → args[j]? = some v → Value.okWide Try.prog W .any base t v) :
    Calls Try.prog 4 args W (fun e w' => e = .returned (.bool true) ∧ Below W.heap.size W w') := by
  rw [Try.params4] at hval hsz
  obtain ⟨l⟩ := args
  match l, hsz with
  | [v0, v1, v2], _ =>
    obtain ⟨x0, rfl, lo0, hi0⟩ := ok_int (t := 2) Try.underlying2 (hval 0 2 v0 rfl rfl)
    obtain ⟨x1, rfl, lo1, hi1⟩ := ok_int (t := 3) Try.underlying3 (hval 1 3 v1 rfl rfl)
    obtain ⟨ev2, lg2, rk2, rfl, t2⟩ := task_of (hval 2 26 v2 rfl rfl)
    exact nil_law x0 x1 ev2 lg2 rk2 W

set_option maxRecDepth 100000 in
theorem nil_lifted (os : Os) (started : os.Started) (H : Type) (enc : TypeId × Value → H) :
    ReturnsInHanded {} Try.checked os 4 .any (Rows.planNilSpec.pre6 enc Try.prog Try.f4 Rows.planNilRow.domain false) (Rows.planNilSpec.post enc Try.prog Try.f4 false true false false) :=
  law_lifted (C := Try.checked) Try.own started (by kernel_rfl) Try.func4
    (ChangeSpec.witness6 (enc := enc) (C := Try.checked) false ⟨#[], #[.int .i64 0, .int .i64 0, .agg #[.int .i64 0, .int .i64 0, .int .i64 0]], []⟩ 8 (by kernel_rfl) (by kernel_rfl) (by kernel_rfl) (by kernel_rfl))
    Try.laidOut (fun t ht => by have ht2 : t ∈ Try.f4.params.toList := ht; rw [Try.params4] at ht2; simp only [List.mem_cons, List.not_mem_nil, or_false] at ht2; rcases ht2 with rfl | rfl | rfl <;> exact ⟨by kernel_rfl, of_decide_eq_true (by kernel_rfl)⟩)
    rfl Try.underlying4 rfl (fun ds hd => by have hd2 : ds.length = Try.f4.params.size := hd; rw [Try.params4] at hd2; match ds, hd2 with | [d0, d1, d2], _ => exact ⟨rfl, rfl, rfl⟩) nil_args

theorem nil_holds : Rows.PlanNilSaid :=
  OpenClaim.holds_of_wide 4 Try.f4 rfl rfl rfl rfl rfl rfl rfl ⟨rfl, rfl, rfl, rfl, rfl⟩ rfl rfl rfl rfl rfl (by kernel_rfl) Try.func4 (by kernel_rfl)
    (of_decide_eq_true (by kernel_rfl)) (by unfold Func.isWrapper; first | (rw [if_pos (by decide +kernel)]; kernel_rfl) | (rw [if_neg (by decide +kernel)]; exact ⟨rfl, rfl⟩))
    (fun os started H enc _ => nil_lifted os started H enc)
#print axioms nil_holds
end Go.Proofs.Ytgdkmakmdomdbaa
