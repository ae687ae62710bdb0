/-
  What is proved: for every two numbers the law FoldGcds returns true, and its arguments read as before. No conditions.
-/
import Derived.Test.YtepoionjcjgnjaaFoX
import Derived.Test.YtepoionjcjgnjaaFlL
import Derived.Test.YtepoionjcjgnjaaFlS
import Derived.Test.YtepoionjcjgnjaaRows
import Derived.ProofKit
import Derived.OpenShut
set_option autoImplicit false
set_option linter.unusedVariables false
namespace Go.Proofs.Ytepoionjcjgnjaa
open Go.RowKit Go.ChangeShapes Go.WideShapes Go.ChangeAt Lk Fo
theorem Try.own : ownKnob Try.prog.godebug = none := by kernel_rfl
theorem Try.laidOut : laidOutB Try.prog = true := by kernel_rfl
set_option maxRecDepth 100000 in
theorem gcds_law (a b : Int) (w : World) (a1 : -9223372036854775808 ≤ a) (a2 : a ≤ 9223372036854775807) (b1 : -9223372036854775808 ≤ b) (b2 : b ≤ 9223372036854775807) :
    Calls Try.prog 3 #[.int .i64 a, .int .i64 b] w (fun e w' => e = .returned (.bool true) ∧ Below w.heap.size w w') := by
  have C1 := fun w => gcd_walk a b w a1 a2 b1 b2
  have C2 := fun w => rgcdW_walk a b w
  generalize gcdW a b = t at C1 C2
  obtain ⟨⟨g, x, y⟩, q⟩ := t
  go_enter Try.func3, Try.ntmps3
  go_wp2_with fail
  refine (C1 _).mono ?_; rintro e w1 ⟨rfl, h1⟩
  go_wp2_with fail
  refine (C2 _).mono ?_; rintro e w2 ⟨rfl, rfl⟩
  go_wp2_with fail
  refine (wakes_walk _).mono ?_; rintro e w3 ⟨rfl, h3⟩
  go_wp2_with fail
  go_ret
  exact ⟨rfl, h1.trans (h3.mono h1.size)⟩
theorem gcds_args (W : World) (base : Nat) (args : Array Value) (hsz : args.size = Try.f3.params.size) (hval : ∀ (j : Nat) t v, Try.f3.params[j]? = some t → args[j]? = some v → Value.okWide Try.prog W .any base t v) :
    Calls Try.prog 3 args W (fun e w' => e = .returned (.bool true) ∧ Below W.heap.size W w') := by
  rw [Try.params3] at hval hsz
  obtain ⟨l⟩ := args
  match l, hsz with
  | [v0, v1], _ =>
    obtain ⟨x0, rfl, lo0, hi0⟩ := ok_int (t := 2) Try.underlying2 (hval 0 2 v0 rfl rfl)
    obtain ⟨x1, rfl, lo1, hi1⟩ := ok_int (t := 2) Try.underlying2 (hval 1 2 v1 rfl rfl)
    exact gcds_law x0 x1 W lo0 hi0 lo1 hi1

set_option maxRecDepth 100000 in
theorem gcds_lifted (os : Os) (started : os.Started) (H : Type) (enc : TypeId × Value → H) :
    ReturnsInHanded {} Try.checked os 3 .any (Rows.foldGcdsSpec.pre6 enc Try.prog Try.f3 Rows.foldGcdsRow.domain false) (Rows.foldGcdsSpec.post enc Try.prog Try.f3 false true false false) :=
  law_lifted (C := Try.checked) Try.own started (by kernel_rfl) Try.func3
    (ChangeSpec.witness6 (enc := enc) (C := Try.checked) false ⟨#[], #[.int .i64 0, .int .i64 0], []⟩ 8 (by kernel_rfl) (by kernel_rfl) (by kernel_rfl) (by kernel_rfl))
    Try.laidOut (fun t ht => by have ht2 : t ∈ Try.f3.params.toList := ht; rw [Try.params3] at ht2; simp only [List.mem_cons, List.not_mem_nil, or_false, or_self] at ht2; subst ht2; exact ⟨by kernel_rfl, of_decide_eq_true (by kernel_rfl)⟩)
    rfl Try.underlying4 rfl (fun ds hd => by have hd2 : ds.length = Try.f3.params.size := hd; rw [Try.params3] at hd2; match ds, hd2 with | [d0, d1], _ => exact ⟨rfl, rfl, rfl⟩) gcds_args

theorem gcds_holds : Rows.FoldGcdsSaid :=
  OpenClaim.holds_of_wide 3 Try.f3 rfl rfl rfl rfl rfl rfl rfl ⟨rfl, rfl, rfl, rfl, rfl⟩ rfl rfl rfl rfl rfl (by kernel_rfl) Try.func3 (by kernel_rfl)
    (of_decide_eq_true (by kernel_rfl)) (by unfold Func.isWrapper; first | (rw [if_pos (by decide +kernel)]; kernel_rfl) | (rw [if_neg (by decide +kernel)]; exact ⟨rfl, rfl⟩))
    (fun os started H enc _ => gcds_lifted os started H enc)
#print axioms gcds_holds
end Go.Proofs.Ytepoionjcjgnjaa
