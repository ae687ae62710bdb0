/-
  What is proved: for every number, every list of moduli, every list of moves and every bound the law FoldMoved returns true, and its arguments read as before. No conditions.
-/
import Derived.Test.YtepoionjcjgnjaaFoMv
import Derived.Test.YtepoionjcjgnjaaFlL
import Derived.Test.YtepoionjcjgnjaaFlS
import Derived.Test.YtepoionjcjgnjaaRows
import Derived.ProofKit
import Derived.OpenShut
set_option autoImplicit false
set_option linter.unusedVariables false
namespace Go.Proofs.Ytepoionjcjgnjaa
open Go.RowKit Go.ChangeShapes Go.WideShapes Go.ChangeAt Lk Fo
set_option maxRecDepth 100000 in
theorem moved_args (W : World) (base : Nat) (args : Array Value) (hsz : args.size = Try.f9.params.size) (hval : ∀ (j : Nat) t v, Try.f9.params[j]? = some t → args[j]? = some v → Value.okWide Try.prog W .any base t v) (hrd : ∀ (j : Nat) t v, Try.f9.params[j]? = some t → args[j]? = some v → Rd Try.prog W t v.cells.toList) :
    Calls Try.prog 9 args W (fun e w' => e = .returned (.bool true) ∧ Below W.heap.size W w') := by
  rw [Try.params9] at hval hsz hrd
  obtain ⟨l⟩ := args
  match l, hsz with
  | [v0, v1, v2, v3], _ =>
    obtain ⟨x0, rfl, lo0, hi0⟩ := ok_int (t := 2) Try.underlying2 (hval 0 2 v0 rfl rfl)
    obtain ⟨a1, n1, c1, M1, rfl, s1⟩ := sl_arg (hval 1 27 v1 rfl rfl) (hrd 1 27 v1 rfl rfl)
    obtain ⟨a2, n2, c2, M2, rfl, s2⟩ := sl_arg (hval 2 27 v2 rfl rfl) (hrd 2 27 v2 rfl rfl)
    obtain ⟨x3, rfl, lo3, hi3⟩ := ok_int (t := 2) Try.underlying2 (hval 3 2 v3 rfl rfl)
    exact moved_law x0 a1 n1 c1 M1 a2 n2 c2 M2 x3 W lo0 hi0 s1 s2 lo3 hi3

set_option maxRecDepth 100000 in
theorem moved_lifted (os : Os) (started : os.Started) (H : Type) (enc : TypeId × Value → H) :
    ReturnsInHanded {} Try.checked os 9 .any (Rows.foldMovedSpec.pre6 enc Try.prog Try.f9 Rows.foldMovedRow.domain false) (Rows.foldMovedSpec.post enc Try.prog Try.f9 false true false false) :=
  law_lifted_s (C := Try.checked) Try.own started (by kernel_rfl) Try.func9
    (ChangeSpec.witness6 (enc := enc) (C := Try.checked) false ⟨#[], #[.int .i64 0, .slice none 0 0, .slice none 0 0, .int .i64 0], []⟩ 8 (by kernel_rfl) (by kernel_rfl) (by kernel_rfl) (by kernel_rfl))
    Try.laidOut (fun t ht => by have ht2 : t ∈ Try.f9.params.toList := ht; rw [Try.params9] at ht2; simp only [List.mem_cons, List.not_mem_nil, or_false] at ht2; rcases ht2 with rfl | rfl | rfl | rfl <;> exact ⟨by kernel_rfl, of_decide_eq_true (by kernel_rfl)⟩)
    rfl Try.underlying4 rfl (fun ds hd => by have hd2 : ds.length = Try.f9.params.size := hd; rw [Try.params9] at hd2; match ds, hd2 with | [d0, d1, d2, d3], _ => exact ⟨rfl, rfl, rfl⟩) moved_args

theorem moved_holds : Rows.FoldMovedSaid :=
  OpenClaim.holds_of_wide 9 Try.f9 rfl rfl rfl rfl rfl rfl rfl ⟨rfl, rfl, rfl, rfl, rfl⟩ rfl rfl rfl rfl rfl (by kernel_rfl) Try.func9 (by kernel_rfl)
    (of_decide_eq_true (by kernel_rfl)) (by unfold Func.isWrapper; first | (rw [if_pos (by decide +kernel)]; kernel_rfl) | (rw [if_neg (by decide +kernel)]; exact ⟨rfl, rfl⟩))
    (fun os started H enc _ => moved_lifted os started H enc)
#print axioms moved_holds
end Go.Proofs.Ytepoionjcjgnjaa
