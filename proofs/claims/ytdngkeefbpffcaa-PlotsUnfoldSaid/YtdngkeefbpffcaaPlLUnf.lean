/-
  What is proved: the law PlotsUnfold returns true, whatever its arguments. Conditions: those of the statement alone.
-/
import Derived.Test.YtdngkeefbpffcaaPuB
import Derived.Test.YtdngkeefbpffcaaRows
set_option autoImplicit false
set_option linter.unusedVariables false
namespace Go.Proofs.Ytdngkeefbpffcaa
open Go.RowKit Go.ChangeShapes Go.WideShapes Go.ChangeAt Lk Rs Pl
set_option maxRecDepth 100000 in
theorem unf_args (W : World) (base : Nat) (args : Array Value) (hsz : args.size = Try.f5.params.size) (hval : ∀ (j : Nat) t v, Try.f5.params[j]? = some t → args[j]? = some v → Value.okWide Try.prog W .any base t v) (hrd : ∀ (j : Nat) t v, Try.f5.params[j]? = some t → args[j]? = some v → Rd Try.prog W t v.cells.toList) :
    Calls Try.prog 5 args W (fun e w' => e = .returned (.bool true) ∧ Below W.heap.size W w') := by
  rw [Try.params5] at hval hsz hrd
  obtain ⟨l⟩ := args
  match l, hsz with
  | [v0, v1, v2, v3, v4], _ =>
    obtain ⟨x0, rfl, lo0, hi0⟩ := ok_int (t := 2) Try.underlying2 (hval 0 2 v0 rfl rfl)
    obtain ⟨a1, n1, c1, M1, rfl, s1, t1⟩ := sn_arg (hval 1 39 v1 rfl rfl) (hrd 1 39 v1 rfl rfl)
    obtain ⟨a2, n2, c2, M2, rfl, s2, t2⟩ := sn_arg (hval 2 39 v2 rfl rfl) (hrd 2 39 v2 rfl rfl)
    obtain ⟨a3, n3, c3, M3, rfl, s3, t3⟩ := sc_arg (hval 3 36 v3 rfl rfl) (hrd 3 36 v3 rfl rfl)
    obtain ⟨x4, rfl, lo4, hi4⟩ := ok_int (t := 2) Try.underlying2 (hval 4 2 v4 rfl rfl)
    exact unf_law x0 a1 n1 c1 M1 a2 n2 c2 M2 a3 n3 c3 M3 x4 W s1 s2 s3

set_option maxRecDepth 100000 in
theorem unf_lifted (os : Os) (started : os.Started) (H : Type) (enc : TypeId × Value → H) :
    ReturnsInHanded {} Try.checked os 5 .any (Rows.plotsUnfoldSpec.pre6 enc Try.prog Try.f5 Rows.plotsUnfoldRow.domain false) (Rows.plotsUnfoldSpec.post enc Try.prog Try.f5 false true false false) :=
  law_lifted_s (C := Try.checked) Try.own started (by kernel_rfl) Try.func5
    (ChangeSpec.witness6 (enc := enc) (C := Try.checked) false ⟨#[], #[.int .i64 0, .slice none 0 0, .slice none 0 0, .slice none 0 0, .int .i64 0], []⟩ 8 (by kernel_rfl) (by kernel_rfl) (by kernel_rfl) (by kernel_rfl))
    Try.laidOut (fun t ht => by have ht2 : t ∈ Try.f5.params.toList := ht; rw [Try.params5] at ht2; simp only [List.mem_cons, List.not_mem_nil, or_false] at ht2; rcases ht2 with rfl | rfl | rfl | rfl | rfl <;> exact ⟨by kernel_rfl, of_decide_eq_true (by kernel_rfl)⟩)
    rfl Try.underlying4 rfl (fun ds hd => by have hd2 : ds.length = Try.f5.params.size := hd; rw [Try.params5] at hd2; match ds, hd2 with | [d0, d1, d2, d3, d4], _ => exact ⟨rfl, rfl, rfl⟩) unf_args

theorem unf_holds : Rows.PlotsUnfoldSaid :=
  OpenClaim.holds_of_wide 5 Try.f5 rfl rfl rfl rfl rfl rfl rfl ⟨rfl, rfl, rfl, rfl, rfl⟩ rfl rfl rfl rfl rfl (by kernel_rfl) Try.func5 (by kernel_rfl)
    (of_decide_eq_true (by kernel_rfl)) (by unfold Func.isWrapper; first | (rw [if_pos (by decide +kernel)]; kernel_rfl) | (rw [if_neg (by decide +kernel)]; exact ⟨rfl, rfl⟩))
    (fun os started H enc _ => unf_lifted os started H enc)
#print axioms unf_holds
end Go.Proofs.Ytdngkeefbpffcaa
