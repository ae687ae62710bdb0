/-
  What is proved: for every beat, speed and bin the law GateBins returns true, and its arguments read as before. No conditions.
-/
import Derived.Test.YtakkdkgbkedliaaGaBl
import Derived.Test.YtakkdkgbkedliaaRows
set_option autoImplicit false
set_option linter.unusedVariables false
namespace Go.Proofs.Ytakkdkgbkedliaa
open Go.RowKit Go.ChangeShapes Go.WideShapes Go.ChangeAt Lk
set_option maxHeartbeats 4000000 in
theorem bins_law (c v r : Nat) (e n : Int) (x y : Nat) (w : World) (h1 : -9223372036854775808 ≤ e) (h2 : e ≤ 9223372036854775807) (h3 : -9223372036854775808 ≤ n) (h4 : n ≤ 9223372036854775807) :
    Calls Try.prog 7 #[btv c v r e n, .float .f64 x, .float .f64 y] w (fun e' w' => e' = .returned (.bool true) ∧ Below w.heap.size w w') := by
  go_enter Try.func7, Try.ntmps7
  go_wp2_with fail
  refine (bin_walk c v r e n x _ h1 h2 h3 h4).mono ?_; rintro e' w2 ⟨rfl, hb2⟩
  have A := (AtB.mk (c := c) (v := v) (r := r) (e := e) (n := n) (B := w.heap.size) (by go_simp) (by go_simp) (by go_simp) (by go_simp) (by go_simp)).keep (by simp) hb2
  have hz : w.heap.size < w2.heap.size := by have := hb2.size; simp at this; omega
  have hB : Below w.heap.size w w2 := ((Below.refl _ _).alloc (Nat.le_refl _) _).trans (hb2.mono (by simp))
  clear hb2
  obtain ⟨c0, c1, c2, c3, c4⟩ := A
  go_wp2_with fail
  refine (rbin_walk c v r e n x _ h1 h2 h3 h4).mono ?_; rintro e' w3 ⟨rfl, b⟩
  have A := (AtB.mk c0 c1 c2 c3 c4).keep hz b; clear c0 c1 c2 c3 c4; obtain ⟨c0, c1, c2, c3, c4⟩ := A; replace hB := hB.trans (b.mono hB.size); replace hz := Nat.lt_of_lt_of_le hz b.size; clear b
  go_wp2_with fail
  refine (same_walk _ _ _).mono ?_; rw [sameF_refl]; rintro e' w4 ⟨rfl, rfl⟩
  go_wp2_with fail
  refine (speed_walk c v r e n y _ h1 h2 h3 h4).mono ?_; rintro e' w4 ⟨rfl, b⟩
  have A := (AtB.mk c0 c1 c2 c3 c4).keep hz b; clear c0 c1 c2 c3 c4; obtain ⟨c0, c1, c2, c3, c4⟩ := A; replace hB := hB.trans (b.mono hB.size); replace hz := Nat.lt_of_lt_of_le hz b.size; clear b
  go_wp2_with fail
  refine (rspeed_walk c v r e n y _ h1 h2 h3 h4).mono ?_; rintro e' w5 ⟨rfl, b⟩
  have A := (AtB.mk c0 c1 c2 c3 c4).keep hz b; clear c0 c1 c2 c3 c4; obtain ⟨c0, c1, c2, c3, c4⟩ := A; replace hB := hB.trans (b.mono hB.size); replace hz := Nat.lt_of_lt_of_le hz b.size; clear b
  go_wp2_with fail
  refine (same_walk _ _ _).mono ?_; rw [sameF_refl]; rintro e' w6 ⟨rfl, rfl⟩
  go_wp2_with fail
  refine (blind_walk c v r e n _ h1 h2 h3 h4).mono ?_; rintro e' w6 ⟨rfl, b⟩
  have A := (AtB.mk c0 c1 c2 c3 c4).keep hz b; clear c0 c1 c2 c3 c4; obtain ⟨c0, c1, c2, c3, c4⟩ := A; replace hB := hB.trans (b.mono hB.size); replace hz := Nat.lt_of_lt_of_le hz b.size; clear b
  go_wp2_with fail
  refine (rblind_walk c v r e n _ h1 h2 h3 h4).mono ?_; rintro e' w7 ⟨rfl, b⟩
  have A := (AtB.mk c0 c1 c2 c3 c4).keep hz b; clear c0 c1 c2 c3 c4; obtain ⟨c0, c1, c2, c3, c4⟩ := A; replace hB := hB.trans (b.mono hB.size); replace hz := Nat.lt_of_lt_of_le hz b.size; clear b
  go_wp2_with fail
  refine (same_walk _ _ _).mono ?_; rw [sameF_refl]; rintro e' w8 ⟨rfl, rfl⟩
  go_wp2_with fail
  refine (same_walk _ _ _).mono ?_; rw [sameF_refl]; rintro e' w8 ⟨rfl, rfl⟩
  go_wp2_with fail
  refine (works_walk _).mono ?_; rintro e' w8 ⟨rfl, b⟩
  have A := (AtB.mk c0 c1 c2 c3 c4).keep hz b; clear c0 c1 c2 c3 c4; obtain ⟨c0, c1, c2, c3, c4⟩ := A; replace hB := hB.trans (b.mono hB.size); replace hz := Nat.lt_of_lt_of_le hz b.size; clear b
  go_wp2_with fail
  go_ret
  exact ⟨rfl, hB⟩
theorem bins_args (W : World) (base : Nat) (args : Array Value) (hsz : args.size = Try.f7.params.size) (hval : ∀ (j : Nat) t v, Try.f7.params[j]? = some t → args[j]? = some v → Value.okWide Try.prog W .any base t v) :
    Calls Try.prog 7 args W (fun e w' => e = .returned (.bool true) ∧ Below W.heap.size W w') := by
  rw [Try.params7] at hval hsz
  obtain ⟨l⟩ := args
  match l, hsz with
  | [v0, v1, v2], _ =>
    obtain ⟨c, v, r, e, n, rfl, g1, g2, g3, b1, b2, b3, b4⟩ := beat_of (hval 0 24 v0 rfl rfl)
    obtain ⟨x, rfl, g4⟩ := ok_float (t := 22) Try.underlying22 (hval 1 22 v1 rfl rfl)
    obtain ⟨y, rfl, g5⟩ := ok_float (t := 22) Try.underlying22 (hval 2 22 v2 rfl rfl)
    exact bins_law c v r e n x y W b1 b2 b3 b4

set_option maxRecDepth 100000 in
theorem bins_lifted (os : Os) (started : os.Started) (H : Type) (enc : TypeId × Value → H) :
    ReturnsInHanded {} Try.checked os 7 .any (Rows.gateBinsSpec.pre6 enc Try.prog Try.f7 Rows.gateBinsRow.domain false) (Rows.gateBinsSpec.post enc Try.prog Try.f7 false true false false) :=
  law_lifted (C := Try.checked) Try.own started (by kernel_rfl) Try.func7
    (ChangeSpec.witness6 (enc := enc) (C := Try.checked) false ⟨#[], #[.agg #[.float .f64 0, .float .f64 0, .float .f64 0, .int .i64 0, .int .i64 0], .float .f64 0, .float .f64 0], []⟩ 8 (by kernel_rfl) (by kernel_rfl) (by kernel_rfl) (by kernel_rfl))
    Try.laidOut (fun t ht => by have ht2 : t ∈ Try.f7.params.toList := ht; rw [Try.params7] at ht2; simp only [List.mem_cons, List.not_mem_nil, or_false, or_self] at ht2; rcases ht2 with rfl | rfl <;> exact ⟨by kernel_rfl, of_decide_eq_true (by kernel_rfl)⟩)
    rfl Try.underlying4 rfl (fun ds hd => by have hd2 : ds.length = Try.f7.params.size := hd; rw [Try.params7] at hd2; match ds, hd2 with | [d1, d2, d3], _ => exact ⟨rfl, rfl, rfl⟩) bins_args

theorem bins_holds : Rows.GateBinsSaid :=
  OpenClaim.holds_of_wide 7 Try.f7 rfl rfl rfl rfl rfl rfl rfl ⟨rfl, rfl, rfl, rfl, rfl⟩ rfl rfl rfl rfl rfl (by kernel_rfl) Try.func7 (by kernel_rfl)
    (of_decide_eq_true (by kernel_rfl)) (by unfold Func.isWrapper; first | (rw [if_pos (by decide +kernel)]; kernel_rfl) | (rw [if_neg (by decide +kernel)]; exact ⟨rfl, rfl⟩))
    (fun os started H enc _ => bins_lifted os started H enc)
#print axioms bins_holds
end Go.Proofs.Ytakkdkgbkedliaa
