/-
  What is proved: the law SmoothBacks returns true, whatever its arguments. Conditions: those of the statement alone.
-/
import Derived.Test.YtoobpiednigcgaaSmBb
import Derived.Test.YtoobpiednigcgaaFlL
import Derived.Test.YtoobpiednigcgaaRows
import Derived.ProofKit
import Derived.OpenShut
set_option autoImplicit false
set_option linter.unusedVariables false
namespace Go.Proofs.Ytoobpiednigcgaa
open Go.RowKit Go.ChangeShapes Go.WideShapes Go.ChangeAt Lk
theorem Try.own : ownKnob Try.prog.godebug = none := by kernel_rfl
theorem Try.laidOut : laidOutB Try.prog = true := by kernel_rfl
set_option maxRecDepth 100000 in
theorem backs_args (W : World) (base : Nat) (args : Array Value) (hsz : args.size = Try.f3.params.size) (hval : ∀ (j : Nat) t v, Try.f3.params[j]? = some t → args[j]? = some v → Value.okWide Try.prog W .any base t v) (hrd : ∀ (j : Nat) t v, Try.f3.params[j]? = some t → args[j]? = some v → Rd Try.prog W t v.cells.toList) :
    Calls Try.prog 3 args W (fun e w' => e = .returned (.bool true) ∧ Below W.heap.size W w') := by
  rw [Try.params3] at hval hsz hrd
  obtain ⟨l⟩ := args
  match l, hsz with
  | [v0, v1, v2], _ =>
    obtain ⟨a0, n0, c0, M0, rfl, s0⟩ := ss_arg (hval 0 22 v0 rfl rfl) (hrd 0 22 v0 rfl rfl)
    obtain ⟨a1, n1, c1, M1, rfl, s1⟩ := fs_arg (hval 1 23 v1 rfl rfl) (hrd 1 23 v1 rfl rfl)
    obtain ⟨x2, rfl, hx2⟩ := ok_float (t := 24) Try.underlying24 (hval 2 24 v2 rfl rfl)
    exact backs_law a0 n0 c0 M0 a1 n1 c1 M1 x2 W s0 s1 hx2

set_option maxRecDepth 100000 in
theorem backs_lifted (os : Os) (started : os.Started) (H : Type) (enc : TypeId × Value → H) :
    ReturnsInHanded {} Try.checked os 3 .any (Rows.smoothBacksSpec.pre6 enc Try.prog Try.f3 Rows.smoothBacksRow.domain false) (Rows.smoothBacksSpec.post enc Try.prog Try.f3 false true false false) :=
  law_lifted_s (C := Try.checked) Try.own started (by kernel_rfl) Try.func3
    (ChangeSpec.witness6 (enc := enc) (C := Try.checked) false ⟨#[], #[.slice none 0 0, .slice none 0 0, .float .f64 0], []⟩ 8 (by kernel_rfl) (by kernel_rfl) (by kernel_rfl) (by kernel_rfl))
    Try.laidOut (fun t ht => by have ht2 : t ∈ Try.f3.params.toList := ht; rw [Try.params3] at ht2; simp only [List.mem_cons, List.not_mem_nil, or_false] at ht2; rcases ht2 with rfl | rfl | rfl <;> exact ⟨by kernel_rfl, of_decide_eq_true (by kernel_rfl)⟩)
    rfl Try.underlying4 rfl (fun ds hd => by have hd2 : ds.length = Try.f3.params.size := hd; rw [Try.params3] at hd2; match ds, hd2 with | [d0, d1, d2], _ => exact ⟨rfl, rfl, rfl⟩) backs_args

theorem backs_holds : Rows.SmoothBacksSaid :=
  OpenClaim.holds_of_wide 3 Try.f3 rfl rfl rfl rfl rfl rfl rfl ⟨rfl, rfl, rfl, rfl, rfl⟩ rfl rfl rfl rfl rfl (by kernel_rfl) Try.func3 (by kernel_rfl)
    (of_decide_eq_true (by kernel_rfl)) (by unfold Func.isWrapper; first | (rw [if_pos (by decide +kernel)]; kernel_rfl) | (rw [if_neg (by decide +kernel)]; exact ⟨rfl, rfl⟩))
    (fun os started H enc _ => backs_lifted os started H enc)
#print axioms backs_holds
end Go.Proofs.Ytoobpiednigcgaa
