/-
  What is proved: for every beat, metres, cell and turns the law GateCells returns true, and its arguments read as before. No conditions.
-/
import Derived.Test.YtakkdkgbkedliaaGaG
import Derived.Test.YtakkdkgbkedliaaRows
import Derived.ProofKit
import Derived.OpenShut
set_option autoImplicit false
set_option linter.unusedVariables false
namespace Go.Proofs.Ytakkdkgbkedliaa
open Go.RowKit Go.ChangeShapes Go.WideShapes Go.ChangeAt Lk
set_option maxHeartbeats 4000000 in
theorem cells_law (c v r : Nat) (e n : Int) (m : Nat) (k t : Int) (w : World) (h1 : -9223372036854775808 ≤ e) (h2 : e ≤ 9223372036854775807) (h3 : -9223372036854775808 ≤ n) (h4 : n ≤ 9223372036854775807) (h5 : -9223372036854775808 ≤ k) (h6 : k ≤ 9223372036854775807) (h7 : -9223372036854775808 ≤ t) (h8 : t ≤ 9223372036854775807) :
    Calls Try.prog 3 #[btv c v r e n, .float .f64 m, .int .i64 k, .int .i64 t] w (fun e' w' => e' = .returned (.bool true) ∧ Below w.heap.size w w') := by
  go_enter Try.func3, Try.ntmps3
  go_wp2_with fail
  refine wp_region_G (TC (chk c v r e n)) (by kernel_rfl) (by kernel_rfl) ?_
  repeat' (refine wpG_step' (fun K hA hK => ?_); go_simp; first | (refine bothG_value hA (v := ?_) (fun w' hw' => ?_) ?_; rotate_left; (· go_simp; rfl); (refine hK _ _ ?_; clear hK hA K)) | (refine bothG_call (f := 9) (args := ?_) (fun w' => ?_) (fun w' _ => ?_) ?_; rotate_left; (· go_simp; rfl); (· exact (check_walk c v r e n _ h1 h2 h3 h4).mono fun e' w' ⟨he, hb⟩ => ⟨_, he, ⟨rfl⟩, hb⟩); (intro u x hu; obtain rfl := hu.a; clear hu; refine hK _ _ ?_; clear hK hA K)) | (refine bothG_call (f := 10) (args := ?_) (fun w' => ?_) (fun w' _ => ?_) ?_; rotate_left; (· go_simp; rfl); (· exact (rcheck_walk c v r e n _ h1 h2 h3 h4).mono fun e' w' ⟨he, hb⟩ => ⟨_, he, ⟨rfl⟩, hb⟩); (intro u x hu; obtain rfl := hu.a; clear hu; refine hK _ _ ?_; clear hK hA K)))
  refine wpG_nil ?_
  intro w2 hb2 hF
  clear hF
  have A := (AtB.mk (c := c) (v := v) (r := r) (e := e) (n := n) (B := w.heap.size) (by go_simp) (by go_simp) (by go_simp) (by go_simp) (by go_simp)).keep (by simp) hb2
  have hz : w.heap.size < w2.heap.size := by have := hb2.size; simp at this; omega
  have hB : Below w.heap.size w w2 := ((Below.refl _ _).alloc (Nat.le_refl _) _).trans (hb2.mono (by simp))
  clear hb2
  obtain ⟨c0, c1, c2, c3, c4⟩ := A
  go_wp2_with fail
  refine (cell_walk c v r e n _ _ h1 h2 h3 h4).mono ?_; rintro e' w3 ⟨rfl, b⟩
  have A := (AtB.mk c0 c1 c2 c3 c4).keep hz b; clear c0 c1 c2 c3 c4; obtain ⟨c0, c1, c2, c3, c4⟩ := A; replace hB := hB.trans (b.mono hB.size); replace hz := Nat.lt_of_lt_of_le hz b.size; clear b
  go_wp2_with fail
  refine (rcell_walk c v r e n _ _ h1 h2 h3 h4).mono ?_; rintro e' w4 ⟨rfl, b⟩
  have A := (AtB.mk c0 c1 c2 c3 c4).keep hz b; clear c0 c1 c2 c3 c4; obtain ⟨c0, c1, c2, c3, c4⟩ := A; replace hB := hB.trans (b.mono hB.size); replace hz := Nat.lt_of_lt_of_le hz b.size; clear b
  go_wp2_with fail
  refine (metres_walk c v r e n _ _ _ h1 h2 h3 h4 h5 h6 h7 h8).mono ?_; rintro e' w5 ⟨rfl, b⟩
  have A := (AtB.mk c0 c1 c2 c3 c4).keep hz b; clear c0 c1 c2 c3 c4; obtain ⟨c0, c1, c2, c3, c4⟩ := A; replace hB := hB.trans (b.mono hB.size); replace hz := Nat.lt_of_lt_of_le hz b.size; clear b
  go_wp2_with fail
  refine (rmetres_walk c v r e n _ _ _ h1 h2 h3 h4 h5 h6 h7 h8).mono ?_; rintro e' w6 ⟨rfl, b⟩
  have A := (AtB.mk c0 c1 c2 c3 c4).keep hz b; clear c0 c1 c2 c3 c4; obtain ⟨c0, c1, c2, c3, c4⟩ := A; replace hB := hB.trans (b.mono hB.size); replace hz := Nat.lt_of_lt_of_le hz b.size; clear b
  go_wp2_with fail
  refine (same_walk _ _ _).mono ?_; rw [sameF_refl]; rintro e' w7 ⟨rfl, rfl⟩
  go_wp2_with fail
  refine (works_walk _).mono ?_; rintro e' w8 ⟨rfl, b⟩
  have A := (AtB.mk c0 c1 c2 c3 c4).keep hz b; clear c0 c1 c2 c3 c4; obtain ⟨c0, c1, c2, c3, c4⟩ := A; replace hB := hB.trans (b.mono hB.size); replace hz := Nat.lt_of_lt_of_le hz b.size; clear b
  go_wp2_with fail
  go_ret
  exact ⟨rfl, hB⟩
theorem cells_args (W : World) (base : Nat) (args : Array Value) (hsz : args.size = Try.f3.params.size) (hval : ∀ (j : Nat) t v, Try.f3.params[j]? = some t → args[j]? = some v → Value.okWide Try.prog W .any base t v) :
    Calls Try.prog 3 args W (fun e w' => e = .returned (.bool true) ∧ Below W.heap.size W w') := by
  rw [Try.params3] at hval hsz
  obtain ⟨l⟩ := args
  match l, hsz with
  | [v0, v1, v2, v3], _ =>
    obtain ⟨c, v, r, e, n, rfl, g1, g2, g3, b1, b2, b3, b4⟩ := beat_of (hval 0 24 v0 rfl rfl)
    obtain ⟨m, rfl, g4⟩ := ok_float (t := 22) Try.underlying22 (hval 1 22 v1 rfl rfl)
    obtain ⟨k, rfl, k1, k2⟩ := ok_int (t := 3) Try.underlying3 (hval 2 3 v2 rfl rfl)
    obtain ⟨t, rfl, t1, t2⟩ := ok_int (t := 3) Try.underlying3 (hval 3 3 v3 rfl rfl)
    exact cells_law c v r e n m k t W b1 b2 b3 b4 k1 k2 t1 t2

set_option maxRecDepth 100000 in
theorem cells_lifted (os : Os) (started : os.Started) (H : Type) (enc : TypeId × Value → H) :
    ReturnsInHanded {} Try.checked os 3 .any (Rows.gateCellsSpec.pre6 enc Try.prog Try.f3 Rows.gateCellsRow.domain false) (Rows.gateCellsSpec.post enc Try.prog Try.f3 false true false false) :=
  law_lifted (C := Try.checked) Try.own started (by kernel_rfl) Try.func3
    (ChangeSpec.witness6 (enc := enc) (C := Try.checked) false ⟨#[], #[.agg #[.float .f64 0, .float .f64 0, .float .f64 0, .int .i64 0, .int .i64 0], .float .f64 0, .int .i64 0, .int .i64 0], []⟩ 8 (by kernel_rfl) (by kernel_rfl) (by kernel_rfl) (by kernel_rfl))
    Try.laidOut (fun t ht => by have ht2 : t ∈ Try.f3.params.toList := ht; rw [Try.params3] at ht2; simp only [List.mem_cons, List.not_mem_nil, or_false, or_self] at ht2; rcases ht2 with rfl | rfl | rfl <;> exact ⟨by kernel_rfl, of_decide_eq_true (by kernel_rfl)⟩)
    rfl Try.underlying4 rfl (fun ds hd => by have hd2 : ds.length = Try.f3.params.size := hd; rw [Try.params3] at hd2; match ds, hd2 with | [d1, d2, d3, d4], _ => exact ⟨rfl, rfl, rfl⟩) cells_args

theorem cells_holds : Rows.GateCellsSaid :=
  OpenClaim.holds_of_wide 3 Try.f3 rfl rfl rfl rfl rfl rfl rfl ⟨rfl, rfl, rfl, rfl, rfl⟩ rfl rfl rfl rfl rfl (by kernel_rfl) Try.func3 (by kernel_rfl)
    (of_decide_eq_true (by kernel_rfl)) (by unfold Func.isWrapper; first | (rw [if_pos (by decide +kernel)]; kernel_rfl) | (rw [if_neg (by decide +kernel)]; exact ⟨rfl, rfl⟩))
    (fun os started H enc _ => cells_lifted os started H enc)
#print axioms cells_holds
end Go.Proofs.Ytakkdkgbkedliaa
