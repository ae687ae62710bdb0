/-
  What is proved: the law SmoothTurned returns true, whatever its arguments. Conditions: those of the statement alone.
-/
import Derived.Test.YtoobpiednigcgaaSmU2
import Derived.Test.YtoobpiednigcgaaFlL
import Derived.Test.YtoobpiednigcgaaRows
import Derived.ProofKit
import Derived.OpenShut
set_option autoImplicit false
set_option linter.unusedVariables false
namespace Go.Proofs.Ytoobpiednigcgaa
open Go.RowKit Go.ChangeShapes Go.WideShapes Go.ChangeAt Lk
theorem Try.own : ownKnob Try.prog.godebug = none := by kernel_rfl
theorem Try.laidOut : laidOutB Try.prog = true := by kernel_rfl
set_option maxRecDepth 100000 in
theorem turned_args (W : World) (base : Nat) (args : Array Value) (hsz : args.size = Try.f6.params.size) (hval : ∀ (j : Nat) t v, Try.f6.params[j]? = some t → args[j]? = some v → Value.okWide Try.prog W .any base t v) (hrd : ∀ (j : Nat) t v, Try.f6.params[j]? = some t → args[j]? = some v → Rd Try.prog W t v.cells.toList) :
    Calls Try.prog 6 args W (fun e w' => e = .returned (.bool true) ∧ Below W.heap.size W w') := by
  rw [Try.params6] at hval hsz hrd
  obtain ⟨l⟩ := args
  match l, hsz with
  | [v0, v1, v2, v3, v4, v5, v6], _ =>
    obtain ⟨a0, n0, c0, M0, rfl, s0⟩ := fs_arg (hval 0 23 v0 rfl rfl) (hrd 0 23 v0 rfl rfl)
    obtain ⟨a1, n1, c1, M1, rfl, s1⟩ := fs_arg (hval 1 23 v1 rfl rfl) (hrd 1 23 v1 rfl rfl)
    obtain ⟨x2, rfl, hx2⟩ := ok_float (t := 24) Try.underlying24 (hval 2 24 v2 rfl rfl)
    obtain ⟨x3, rfl, hx3⟩ := ok_float (t := 24) Try.underlying24 (hval 3 24 v3 rfl rfl)
    obtain ⟨a4, n4, c4, M4, rfl, s4⟩ := ss_arg (hval 4 22 v4 rfl rfl) (hrd 4 22 v4 rfl rfl)
    obtain ⟨a5, n5, c5, M5, rfl, s5⟩ := fs_arg (hval 5 23 v5 rfl rfl) (hrd 5 23 v5 rfl rfl)
    obtain ⟨x6, rfl, hx6⟩ := ok_float (t := 24) Try.underlying24 (hval 6 24 v6 rfl rfl)
    exact turned_law a0 n0 c0 M0 a1 n1 c1 M1 x2 x3 a4 n4 c4 M4 a5 n5 c5 M5 x6 W s0 s1 hx2 hx3 s4 s5 hx6

set_option maxRecDepth 100000 in
theorem turned_lifted (os : Os) (started : os.Started) (H : Type) (enc : TypeId × Value → H) :
    ReturnsInHanded {} Try.checked os 6 .any (Rows.smoothTurnedSpec.pre6 enc Try.prog Try.f6 Rows.smoothTurnedRow.domain false) (Rows.smoothTurnedSpec.post enc Try.prog Try.f6 false true false false) :=
  law_lifted_s (C := Try.checked) Try.own started (by kernel_rfl) Try.func6
    (ChangeSpec.witness6 (enc := enc) (C := Try.checked) false ⟨#[], #[.slice none 0 0, .slice none 0 0, .float .f64 0, .float .f64 0, .slice none 0 0, .slice none 0 0, .float .f64 0], []⟩ 8 (by kernel_rfl) (by kernel_rfl) (by kernel_rfl) (by kernel_rfl))
    Try.laidOut (fun t ht => by have ht2 : t ∈ Try.f6.params.toList := ht; rw [Try.params6] at ht2; simp only [List.mem_cons, List.not_mem_nil, or_false] at ht2; rcases ht2 with rfl | rfl | rfl | rfl | rfl | rfl | rfl <;> exact ⟨by kernel_rfl, of_decide_eq_true (by kernel_rfl)⟩)
    rfl Try.underlying4 rfl (fun ds hd => by have hd2 : ds.length = Try.f6.params.size := hd; rw [Try.params6] at hd2; match ds, hd2 with | [d0, d1, d2, d3, d4, d5, d6], _ => exact ⟨rfl, rfl, rfl⟩) turned_args

theorem turned_holds : Rows.SmoothTurnedSaid :=
  OpenClaim.holds_of_wide 6 Try.f6 rfl rfl rfl rfl rfl rfl rfl ⟨rfl, rfl, rfl, rfl, rfl⟩ rfl rfl rfl rfl rfl (by kernel_rfl) Try.func6 (by kernel_rfl)
    (of_decide_eq_true (by kernel_rfl)) (by unfold Func.isWrapper; first | (rw [if_pos (by decide +kernel)]; kernel_rfl) | (rw [if_neg (by decide +kernel)]; exact ⟨rfl, rfl⟩))
    (fun os started H enc _ => turned_lifted os started H enc)
#print axioms turned_holds
end Go.Proofs.Ytoobpiednigcgaa
