/-
  What is proved: the law PlotsResolves returns true, whatever its argument, where the argument is of bulk at most 1048576. Conditions: those of the statement (the second form, '..UptoSaid') alone.
-/
import Derived.Test.YtdngkeefbpffcaaPrE
import Derived.Test.YtdngkeefbpffcaaPrF
set_option autoImplicit false
set_option linter.unusedVariables false
namespace Go.Proofs.Ytdngkeefbpffcaa
open Go.RowKit Go.ChangeShapes Go.WideShapes Go.ChangeAt Go.Deep Lk Rs Pl Fo
set_option maxRecDepth 100000 in
theorem res_contract (H : Type) (enc : TypeId × Value → H) (W : World) (base : Nat) (args : Array Value) (ds gs : List (DataW H)) (before : List MemPlace)
    (hval : ∀ (j : Nat) t v, Try.f4.params[j]? = some t → args[j]? = some v → Value.okWide Try.prog W .any base t v)
    (hW : DataW.Whole enc Try.prog Try.f4.params.toList Rows.plotsResolvesSpec.vars false W args.toList ds gs before) (hk : Rows.uptoSmall H (ds ++ gs) = true) :
    Calls Try.prog 4 args W fun e W' => ∃ v, e = .returned v ∧ Rows.plotsResolvesSpec.post enc Try.prog Try.f4 false true false false W args v W' := by
  have hW' := hW
  have bulk : Rows.uptoBulkAll (ds ++ gs) ≤ 1048576 := of_decide_eq_true hk
  obtain ⟨p, q, hA0, hV, hps, hfz, hnd⟩ := hW
  have hA : DataW.TrodAll enc Try.prog W 0 (fun _ => true) true Try.f4.params.toList args.toList ds p := hA0
  rw [Try.params4] at hA hval
  obtain ⟨v0, vs0, d0, ds0, p0, q0, hargs, rfl, rfl, h0, r0⟩ := trodAll_cons hA
  obtain ⟨rfl, rfl, rfl⟩ := trodAll_nil r0
  obtain rfl : args = #[v0] := by cases args; simp_all
  obtain ⟨fuel, h3⟩ := h0
  have rk : Rk W 38 v0.cells.toList := ⟨H, enc, fuel, d0, p0, h3, fun x hx => hW'.lt x (by rw [hps]; exact List.mem_append_left _ (List.mem_append_left _ hx)), Nat.le_trans (blk_mem (by simp)) bulk⟩
  obtain ⟨aB, nB, cB, B, aC, nC, cC, LL, off, most, rfl, sb, sc, hl, n1, n2⟩ := ask_arg (hval 0 38 v0 rfl rfl) rk
  refine (resolves_law aB nB cB B aC nC cC LL off most W sb sc hl n1 n2).mono fun e W' ⟨he, hg⟩ => ?_
  exact ⟨_, he, law_post Try.laidOut (fun t ht => by have ht2 : t ∈ Try.f4.params.toList := ht; rw [Try.params4] at ht2; simp only [List.mem_cons, List.not_mem_nil, or_false] at ht2; subst ht2; exact ⟨by kernel_rfl, of_decide_eq_true (by kernel_rfl)⟩)
    rfl Try.underlying4 rfl ⟨rfl, rfl, rfl⟩ hW' hg⟩
set_option maxRecDepth 100000 in
theorem res_lifted (os : Os) (started : os.Started) (H : Type) (enc : TypeId × Value → H) (F : Stop.Interp) :
    ReturnsInHanded {} Try.checked os 4 .any ((Rows.OpenSpec.upto Rows.plotsResolvesSpec).pre6 enc Try.prog Try.f4 Rows.plotsResolvesUptoRow.domain false) (((Rows.OpenSpec.upto Rows.plotsResolvesSpec).at F).post enc Try.prog Try.f4 false true false false) := by
  refine returnsInHanded_of_cond (C := Try.checked) (s := Rows.OpenSpec.upto Rows.plotsResolvesSpec) (k := Rows.uptoSmall) rfl Try.own started (by kernel_rfl) Try.func4
    (OpenSpec.witness (enc := enc) (C := Try.checked) (s := Rows.OpenSpec.upto Rows.plotsResolvesSpec) (k := Rows.uptoSmall) rfl false ⟨#[], #[.agg #[.slice none 0 0, .slice none 0 0, .int .i64 0, .int .i64 0]], []⟩ 8 (by kernel_rfl) (by kernel_rfl) (by kernel_rfl)
      (x := ([.agg [.nil, .nil, .lit (.int .i64 0), .lit (.int .i64 0)]], [], [])) (by kernel_rfl) rfl (by kernel_rfl)) ?_
  intro W base args ds gs before hval hW _ hk _
  exact res_contract H enc W base args ds gs before hval hW hk
theorem resolves_holds : Rows.PlotsResolvesUptoSaid :=
  OpenClaim.holds_of_cond 4 Try.f4 rfl rfl rfl rfl rfl rfl rfl ⟨rfl, rfl, rfl, rfl, rfl⟩ rfl rfl rfl rfl rfl (by kernel_rfl) Try.func4 (by kernel_rfl)
    (of_decide_eq_true (by kernel_rfl)) (by unfold Func.isWrapper; first | (rw [if_pos (by decide +kernel)]; kernel_rfl) | (rw [if_neg (by decide +kernel)]; exact ⟨rfl, rfl⟩))
    (fun os started H enc _ F => res_lifted os started H enc F)
#print axioms resolves_holds
end Go.Proofs.Ytdngkeefbpffcaa
