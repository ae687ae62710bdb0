/-
  What is proved: the law PlanRows returns true, whatever its arguments. Conditions: those of the statement alone.
-/
import Derived.Test.YtgdkmakmdomdbaaPnRk
import Derived.Test.YtgdkmakmdomdbaaPnAr
import Derived.Test.YtgdkmakmdomdbaaFlL
import Derived.Test.YtgdkmakmdomdbaaRows
import Derived.ProofKit
import Derived.OpenShut
set_option autoImplicit false
set_option linter.unusedVariables false
namespace Go.Proofs.Ytgdkmakmdomdbaa
open Go.RowKit Go.ChangeShapes Go.WideShapes Go.ChangeAt Lk
theorem Try.und53 : Try.prog.underlying 53 = some (.slice 5) := by kernel_rfl
set_option maxRecDepth 100000 in
/-- .. of bytes -/
theorem u8_arg {W : World} {base : Nat} {v : Value} (h1 : Value.okWide Try.prog W .any base 53 v) (h2 : Rd Try.prog W 53 v.cells.toList) : ∃ a n cap M, v = .slice a n cap ∧ S8 W a n cap M := by
  obtain ⟨ao, len, cap, hv, g1, g2, g3⟩ := rd_row (P := Try.prog) (t := 53) (e := 5) (n := 1) Try.und53 (by kernel_rfl) (by decide) h2
  obtain ⟨a1, n1, c1, rfl⟩ := Go.WideShapes.okWide_slice Try.und53 h1
  obtain ⟨rfl, rfl, rfl⟩ : a1 = ao ∧ n1 = len ∧ c1 = cap := by simpa [Value.cells] using hv
  rcases g3 with h0 | ⟨b, off, hb, rfl, hc⟩
  · exact ⟨a1, n1, c1, [], rfl, by rw [h0]; rfl, g1, by unfold maxLen at g2; omega, .inl h0, fun x hx => by cases hx⟩
  · have key : ∀ i, ∃ x : Int, i < n1 → W.cell? ⟨b, off + i, none⟩ = some (.int .u8 x) ∧ 0 ≤ x ∧ x ≤ 255 := by
      intro i
      by_cases hi : i < n1
      · obtain ⟨cs, hl, hcell, hr⟩ := hc i hi
        obtain ⟨x, rfl, x1, x2⟩ := rd_int Try.underlying5 hr
        refine ⟨x, fun _ => ⟨?_, x1, x2⟩⟩
        have := hcell 0 (by decide)
        rwa [show i * 1 + 0 = i by omega] at this
      · exact ⟨0, fun h => absurd h hi⟩
    obtain ⟨f, hf⟩ := Classical.axiomOfChoice key
    refine ⟨_, n1, c1, (List.range n1).map f, rfl, by simp, g1, by unfold maxLen at g2; omega, .inr ⟨b, off, rfl, hb, fun j x hx => ?_⟩, fun x hx => ?_⟩
    · have hj : j < n1 := by have := (List.getElem?_eq_some_iff.1 hx).1; simpa using this
      rw [List.getElem?_map, List.getElem?_range hj] at hx
      cases hx
      exact (hf j hj).1
    · obtain ⟨j, hj, rfl⟩ := List.mem_map.1 hx
      exact (hf j (List.mem_range.1 hj)).2
set_option maxRecDepth 100000 in
theorem rows_args (W : World) (base : Nat) (args : Array Value) (hsz : args.size = Try.f6.params.size) (hval : ∀ (j : Nat) t v, Try.f6.params[j]? = some t → args[j]? = some v → Value.okWide Try.prog W .any base t v) (hrd : ∀ (j : Nat) t v, Try.f6.params[j]? = some t → args[j]? = some v → Rd Try.prog W t v.cells.toList) :
    Calls Try.prog 6 args W (fun e w' => e = .returned (.bool true) ∧ Below W.heap.size W w') := by
  rw [Try.params6] at hval hsz hrd
  obtain ⟨l⟩ := args
  match l, hsz with
  | [v0, v1, v2], _ =>
    obtain ⟨a0, n0, c0, M0, rfl, s0⟩ := ts_arg (hval 0 22 v0 rfl rfl) (hrd 0 22 v0 rfl rfl)
    obtain ⟨a1, n1, c1, M1, rfl, s1⟩ := u8_arg (hval 1 53 v1 rfl rfl) (hrd 1 53 v1 rfl rfl)
    obtain ⟨x2, rfl, lo2, hi2⟩ := ok_int (t := 54) Try.underlying54 (hval 2 54 v2 rfl rfl)
    exact rows_law a0 n0 c0 M0 a1 n1 c1 M1 x2 W s0 s1 lo2 hi2

set_option maxRecDepth 100000 in
theorem rows_lifted (os : Os) (started : os.Started) (H : Type) (enc : TypeId × Value → H) :
    ReturnsInHanded {} Try.checked os 6 .any (Rows.planRowsSpec.pre6 enc Try.prog Try.f6 Rows.planRowsRow.domain false) (Rows.planRowsSpec.post enc Try.prog Try.f6 false true false false) :=
  law_lifted_s (C := Try.checked) Try.own started (by kernel_rfl) Try.func6
    (ChangeSpec.witness6 (enc := enc) (C := Try.checked) false ⟨#[], #[.slice none 0 0, .slice none 0 0, .int .u16 0], []⟩ 8 (by kernel_rfl) (by kernel_rfl) (by kernel_rfl) (by kernel_rfl))
    Try.laidOut (fun t ht => by have ht2 : t ∈ Try.f6.params.toList := ht; rw [Try.params6] at ht2; simp only [List.mem_cons, List.not_mem_nil, or_false] at ht2; rcases ht2 with rfl | rfl | rfl <;> exact ⟨by kernel_rfl, of_decide_eq_true (by kernel_rfl)⟩)
    rfl Try.underlying4 rfl (fun ds hd => by have hd2 : ds.length = Try.f6.params.size := hd; rw [Try.params6] at hd2; match ds, hd2 with | [d0, d1, d2], _ => exact ⟨rfl, rfl, rfl⟩) rows_args

theorem rows_holds : Rows.PlanRowsSaid :=
  OpenClaim.holds_of_wide 6 Try.f6 rfl rfl rfl rfl rfl rfl rfl ⟨rfl, rfl, rfl, rfl, rfl⟩ rfl rfl rfl rfl rfl (by kernel_rfl) Try.func6 (by kernel_rfl)
    (of_decide_eq_true (by kernel_rfl)) (by unfold Func.isWrapper; first | (rw [if_pos (by decide +kernel)]; kernel_rfl) | (rw [if_neg (by decide +kernel)]; exact ⟨rfl, rfl⟩))
    (fun os started H enc _ => rows_lifted os started H enc)
#print axioms rows_holds
end Go.Proofs.Ytgdkmakmdomdbaa
