/-
  What is proved: the law PlotsOrders returns true, whatever its arguments. Conditions: those of the statement alone.
-/
import Derived.Test.YtdngkeefbpffcaaPwJ
import Derived.Test.YtdngkeefbpffcaaPlZ
import Derived.Test.YtdngkeefbpffcaaRows
set_option autoImplicit false
set_option linter.unusedVariables false
namespace Go.Proofs.Ytdngkeefbpffcaa
open Go.RowKit Go.ChangeShapes Go.WideShapes Go.ChangeAt Lk Pl
set_option maxRecDepth 100000 in
theorem orders_args (W : World) (base : Nat) (args : Array Value) (hsz : args.size = Try.f6.params.size) (hval : ∀ (j : Nat) t v, Try.f6.params[j]? = some t → args[j]? = some v → Value.okWide Try.prog W .any base t v) (hrd : ∀ (j : Nat) t v, Try.f6.params[j]? = some t → args[j]? = some v → Rd Try.prog W t v.cells.toList) :
    Calls Try.prog 6 args W (fun e w' => e = .returned (.bool true) ∧ Below W.heap.size W w') := by
  rw [Try.params6] at hval hsz hrd
  obtain ⟨l⟩ := args
  match l, hsz with
  | [v0, v1, v2], _ =>
    obtain ⟨a0, n0, c0, M0, rfl, s0, t0⟩ := sp_arg (hval 0 47 v0 rfl rfl) (hrd 0 47 v0 rfl rfl)
    obtain ⟨x1, rfl, hx1⟩ := ok_float (t := 22) Try.underlying22 (hval 1 22 v1 rfl rfl)
    obtain ⟨x2, rfl, hx2⟩ := ok_float (t := 22) Try.underlying22 (hval 2 22 v2 rfl rfl)
    exact orders_law a0 n0 c0 M0 x1 x2 W s0

set_option maxRecDepth 100000 in
theorem orders_lifted (os : Os) (started : os.Started) (H : Type) (enc : TypeId × Value → H) :
    ReturnsInHanded {} Try.checked os 6 .any (Rows.plotsOrdersSpec.pre6 enc Try.prog Try.f6 Rows.plotsOrdersRow.domain false) (Rows.plotsOrdersSpec.post enc Try.prog Try.f6 false true false false) :=
  law_lifted_s (C := Try.checked) Try.own started (by kernel_rfl) Try.func6
    (ChangeSpec.witness6 (enc := enc) (C := Try.checked) false ⟨#[], #[.slice none 0 0, .float .f64 0, .float .f64 0], []⟩ 8 (by kernel_rfl) (by kernel_rfl) (by kernel_rfl) (by kernel_rfl))
    Try.laidOut (fun t ht => by have ht2 : t ∈ Try.f6.params.toList := ht; rw [Try.params6] at ht2; simp only [List.mem_cons, List.not_mem_nil, or_false, or_self] at ht2; rcases ht2 with rfl | rfl <;> exact ⟨by kernel_rfl, of_decide_eq_true (by kernel_rfl)⟩)
    rfl Try.underlying4 rfl (fun ds hd => by have hd2 : ds.length = Try.f6.params.size := hd; rw [Try.params6] at hd2; match ds, hd2 with | [d0, d1, d2], _ => exact ⟨rfl, rfl, rfl⟩) orders_args

theorem orders_holds : Rows.PlotsOrdersSaid :=
  OpenClaim.holds_of_wide 6 Try.f6 rfl rfl rfl rfl rfl rfl rfl ⟨rfl, rfl, rfl, rfl, rfl⟩ rfl rfl rfl rfl rfl (by kernel_rfl) Try.func6 (by kernel_rfl)
    (of_decide_eq_true (by kernel_rfl)) (by unfold Func.isWrapper; first | (rw [if_pos (by decide +kernel)]; kernel_rfl) | (rw [if_neg (by decide +kernel)]; exact ⟨rfl, rfl⟩))
    (fun os started H enc _ => orders_lifted os started H enc)
#print axioms orders_holds
end Go.Proofs.Ytdngkeefbpffcaa
