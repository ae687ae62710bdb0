/-
  What is proved: for every beat and every bin the law GateNear returns true, and its arguments read as before. No conditions.
-/
import Derived.Test.YtakkdkgbkedliaaGaV
import Derived.Test.YtakkdkgbkedliaaFlZ
import Derived.Test.YtakkdkgbkedliaaRows
set_option autoImplicit false
set_option linter.unusedVariables false
namespace Go.Proofs.Ytakkdkgbkedliaa
open Go.RowKit Go.ChangeShapes Go.WideShapes Go.ChangeAt Lk
def btw (x a b : Nat) : Bool := cge x a && cle x b
theorem between_walk (x a b : Nat) (w : World) : Calls Try.prog 19 #[.float .f64 x, .float .f64 a, .float .f64 b] w (fun e w' => e = .returned (.bool (btw x a b)) ∧ w = w') := by
  have H : Hid (btw x a b = (cge x a && cle x b)) := Lib.hid rfl
  cases h1 : cge x a
  · have e1 : (FloatKind.f64.format.order x a == some Ordering.gt || FloatKind.f64.format.order x a == some Ordering.eq) = false := h1
    go_enter Try.func19, Try.ntmps19
    go_wp2
    go_ret
    exact ⟨ret_bool (by rw [H.out, h1]; rfl), rfl⟩
  · have e1 : (FloatKind.f64.format.order x a == some Ordering.gt || FloatKind.f64.format.order x a == some Ordering.eq) = true := h1
    go_enter Try.func19, Try.ntmps19
    go_wp2
    go_ret
    exact ⟨ret_bool (by rw [H.out, h1]; rfl), rfl⟩
set_option maxHeartbeats 8000000 in
theorem near_law (c u0 r : Nat) (e m0 : Int) (k : Int) (w : World) (hcl : c < 2 ^ 64) (hvl : u0 < 2 ^ 64) (hrl : r < 2 ^ 64) (h1 : -9223372036854775808 ≤ e) (h2 : e ≤ 9223372036854775807) (h3 : -9223372036854775808 ≤ m0) (h4 : m0 ≤ 9223372036854775807) (a1 : -9223372036854775808 ≤ k) (a2 : k ≤ 9223372036854775807) :
    Calls Try.prog 5 #[btv c u0 r e m0, .int .i64 k] w (fun e' w' => e' = .returned (.bool true) ∧ Below w.heap.size w w') := by
  go_enter Try.func5, Try.ntmps5
  go_wp2_with fail
  refine (works_walk _).mono ?_; rintro e' w2 ⟨rfl, hb2⟩
  have A := (AtB.mk (c := c) (v := u0) (r := r) (e := e) (n := m0) (B := w.heap.size) (by go_simp) (by go_simp) (by go_simp) (by go_simp) (by go_simp)).keep (by simp) hb2
  have hz : w.heap.size < w2.heap.size := by have := hb2.size; simp at this; omega
  have hB : Below w.heap.size w w2 := ((Below.refl _ _).alloc (Nat.le_refl _) _).trans (hb2.mono (by simp))
  clear hb2
  obtain ⟨c0, c1, c2, c3, c4⟩ := A
  go_wp2_with fail
  by_cases hC : chk c u0 r e m0 = 0
  · have HC := Lib.hid hC
    clear hC
    refine (check_walk c u0 r e m0 _ h1 h2 h3 h4).mono ?_; rw [HC.out]; rintro e' w3 ⟨rfl, b⟩
    have A := (AtB.mk c0 c1 c2 c3 c4).keep hz b; clear c0 c1 c2 c3 c4; obtain ⟨c0, c1, c2, c3, c4⟩ := A; replace hB := hB.trans (b.mono hB.size); replace hz := Nat.lt_of_lt_of_le hz b.size; clear b
    go_wp2_with fail
    refine (between_walk _ _ _ _).mono ?_; rintro e' w4 ⟨rfl, rfl⟩
    cases hM1 : btw c 4562254508917369340 4741671816366391296
    · go_wp2_with fail
      refine (works_walk _).mono ?_; rintro e' wk ⟨rfl, b⟩
      have A := (AtB.mk c0 c1 c2 c3 c4).keep hz b; clear c0 c1 c2 c3 c4; obtain ⟨c0, c1, c2, c3, c4⟩ := A; replace hB := hB.trans (b.mono hB.size); replace hz := Nat.lt_of_lt_of_le hz b.size; clear b
      go_wp2_with fail
      go_ret
      exact ⟨rfl, hB⟩
    · go_wp2_with fail
      refine (between_walk _ _ _ _).mono ?_; rintro e' w4 ⟨rfl, rfl⟩
      cases hM2 : btw u0 4562254508917369340 4741671816366391296
      · go_wp2_with fail
        refine (works_walk _).mono ?_; rintro e' wk ⟨rfl, b⟩
        have A := (AtB.mk c0 c1 c2 c3 c4).keep hz b; clear c0 c1 c2 c3 c4; obtain ⟨c0, c1, c2, c3, c4⟩ := A; replace hB := hB.trans (b.mono hB.size); replace hz := Nat.lt_of_lt_of_le hz b.size; clear b
        go_wp2_with fail
        go_ret
        exact ⟨rfl, hB⟩
      · go_wp2_with fail
        refine (between_walk _ _ _ _).mono ?_; rintro e' w4 ⟨rfl, rfl⟩
        cases hM3 : btw r 4562254508917369340 4741671816366391296
        · go_wp2_with fail
          refine (works_walk _).mono ?_; rintro e' wk ⟨rfl, b⟩
          have A := (AtB.mk c0 c1 c2 c3 c4).keep hz b; clear c0 c1 c2 c3 c4; obtain ⟨c0, c1, c2, c3, c4⟩ := A; replace hB := hB.trans (b.mono hB.size); replace hz := Nat.lt_of_lt_of_le hz b.size; clear b
          go_wp2_with fail
          go_ret
          exact ⟨rfl, hB⟩
        · have LV : Lim u0 := by unfold btw at hM2; rw [Bool.and_eq_true] at hM2; exact hM2
          have LR : Lim r := by unfold btw at hM3; rw [Bool.and_eq_true] at hM3; exact hM3
          clear hM1 hM2 hM3
          obtain ⟨_, _, _, _, _, n1, n2⟩ := chk_zero HC.out
          have hn0 : ¬ m0 = 0 := by omega
          have hn1 : ¬ m0 = -1 := by omega
          have k1 : k.tmod m0 < m0 := Int.tmod_lt_of_pos k (by omega)
          have k2 : -m0 < k.tmod m0 := by
            have := Int.tmod_lt_of_pos (-k) (b := m0) (by omega)
            rw [Int.neg_tmod] at this
            omega
          have kw : wrap64 (2 * k.tmod m0) = 2 * k.tmod m0 := by unfold wrap64; omega
          have kw2 : wrap64 (-m0) = -m0 := by unfold wrap64; omega
          have nr : 2 * k.tmod m0 < m0 → -m0 < 2 * k.tmod m0 → (spd c u0 r e m0 (floatOfInt .f64 (k.tmod m0))).2 = 0 ∧ _ := fun a b => near HC.out LV LR a b
          have NR := Lib.hid nr
          clear nr LV LR
          obtain ⟨k0, hk0⟩ : ∃ k0, k.tmod m0 = k0 := ⟨_, rfl⟩
          rw [hk0] at k1 k2 kw NR
          by_cases g1 : m0 ≤ 2 * k0
          · go_wp2_with fail
            go_ret
            exact ⟨rfl, hB⟩
          · by_cases g2 : 2 * k0 ≤ -m0
            · go_wp2_with fail
              go_ret
              exact ⟨rfl, hB⟩
            · obtain ⟨p1, p2, p3, p4⟩ := NR.out (by omega) (by omega)
              have P3 := Lib.hid p3
              have P4 := Lib.hid p4
              clear p3 p4 NR
              go_wp2_with fail
              refine (speed_walk c u0 r e m0 _ _ h1 h2 h3 h4).mono ?_; rintro e' w5 ⟨rfl, b⟩
              rw [p1]
              have A := (AtB.mk c0 c1 c2 c3 c4).keep hz b; clear c0 c1 c2 c3 c4; obtain ⟨c0, c1, c2, c3, c4⟩ := A; replace hB := hB.trans (b.mono hB.size); replace hz := Nat.lt_of_lt_of_le hz b.size; clear b
              go_wp2_with fail
              refine (bin_walk c u0 r e m0 _ _ h1 h2 h3 h4).mono ?_; rintro e' w6 ⟨rfl, b⟩
              rw [p2]
              have A := (AtB.mk c0 c1 c2 c3 c4).keep hz b; clear c0 c1 c2 c3 c4; obtain ⟨c0, c1, c2, c3, c4⟩ := A; replace hB := hB.trans (b.mono hB.size); replace hz := Nat.lt_of_lt_of_le hz b.size; clear b
              clear p1 p2
              generalize (bin c u0 r e m0 (spd c u0 r e m0 (floatOfInt .f64 k0)).1).1 = X at *
              go_wp2_with (((with_reducible refine wpList_floatg (x := ?_) (y := ?_) (X := ?_) (Y := ?_) rfl rfl ?_ ?_ ?_ ?_ ?_ ?_ ?_); (· rfl); (· rfl); (rotate_left 4); (· rfl); (· rfl); (· first | assumption | exact Is.refl _); (· first | assumption | exact Is.refl _); intro v n hv hl); have e9 := hv.eq P4.out; subst e9; clear hv)
              refine (abs_walk _ _ hl).mono ?_; rintro e' w7 ⟨rfl, rfl⟩
              have q : (FloatKind.f64.format.order (fabs (fop BinOp.sub X (floatOfInt .f64 k0))) 4472406533629990549 == some Ordering.lt || FloatKind.f64.format.order (fabs (fop BinOp.sub X (floatOfInt .f64 k0))) 4472406533629990549 == some Ordering.eq) = true := P3.out
              go_wp2_with fail
              go_ret
              exact ⟨rfl, Below.drew hB⟩
  · refine (check_walk c u0 r e m0 _ h1 h2 h3 h4).mono ?_; rintro e' w3 ⟨rfl, b⟩
    have A := (AtB.mk c0 c1 c2 c3 c4).keep hz b; clear c0 c1 c2 c3 c4; obtain ⟨c0, c1, c2, c3, c4⟩ := A; replace hB := hB.trans (b.mono hB.size); replace hz := Nat.lt_of_lt_of_le hz b.size; clear b
    go_wp2_with fail
    refine (works_walk _).mono ?_; rintro e' wk ⟨rfl, b⟩
    have A := (AtB.mk c0 c1 c2 c3 c4).keep hz b; clear c0 c1 c2 c3 c4; obtain ⟨c0, c1, c2, c3, c4⟩ := A; replace hB := hB.trans (b.mono hB.size); replace hz := Nat.lt_of_lt_of_le hz b.size; clear b
    go_wp2_with fail
    go_ret
    exact ⟨rfl, hB⟩
theorem near_args (W : World) (base : Nat) (args : Array Value) (hsz : args.size = Try.f5.params.size) (hval : ∀ (j : Nat) t v, Try.f5.params[j]? = some t → args[j]? = some v → Value.okWide Try.prog W .any base t v) :
    Calls Try.prog 5 args W (fun e w' => e = .returned (.bool true) ∧ Below W.heap.size W w') := by
  rw [Try.params5] at hval hsz
  obtain ⟨l⟩ := args
  match l, hsz with
  | [v0, v1], _ =>
    obtain ⟨c, v, r, e, n, rfl, g1, g2, g3, b1, b2, b3, b4⟩ := beat_of (hval 0 24 v0 rfl rfl)
    obtain ⟨x1, rfl, lo1, hi1⟩ := ok_int (t := 3) Try.underlying3 (hval 1 3 v1 rfl rfl)
    exact near_law c v r e n x1 W g1 g2 g3 b1 b2 b3 b4 lo1 hi1

set_option maxRecDepth 100000 in
theorem near_lifted (os : Os) (started : os.Started) (H : Type) (enc : TypeId × Value → H) :
    ReturnsInHanded {} Try.checked os 5 .any (Rows.gateNearSpec.pre6 enc Try.prog Try.f5 Rows.gateNearRow.domain false) (Rows.gateNearSpec.post enc Try.prog Try.f5 false true false false) :=
  law_lifted (C := Try.checked) Try.own started (by kernel_rfl) Try.func5
    (ChangeSpec.witness6 (enc := enc) (C := Try.checked) false ⟨#[], #[.agg #[.float .f64 0, .float .f64 0, .float .f64 0, .int .i64 0, .int .i64 0], .int .i64 0], []⟩ 8 (by kernel_rfl) (by kernel_rfl) (by kernel_rfl) (by kernel_rfl))
    Try.laidOut (fun t ht => by have ht2 : t ∈ Try.f5.params.toList := ht; rw [Try.params5] at ht2; simp only [List.mem_cons, List.not_mem_nil, or_false] at ht2; rcases ht2 with rfl | rfl <;> exact ⟨by kernel_rfl, of_decide_eq_true (by kernel_rfl)⟩)
    rfl Try.underlying4 rfl (fun ds hd => by have hd2 : ds.length = Try.f5.params.size := hd; rw [Try.params5] at hd2; match ds, hd2 with | [d0, d1], _ => exact ⟨rfl, rfl, rfl⟩) near_args

theorem near_holds : Rows.GateNearSaid :=
  OpenClaim.holds_of_wide 5 Try.f5 rfl rfl rfl rfl rfl rfl rfl ⟨rfl, rfl, rfl, rfl, rfl⟩ rfl rfl rfl rfl rfl (by kernel_rfl) Try.func5 (by kernel_rfl)
    (of_decide_eq_true (by kernel_rfl)) (by unfold Func.isWrapper; first | (rw [if_pos (by decide +kernel)]; kernel_rfl) | (rw [if_neg (by decide +kernel)]; exact ⟨rfl, rfl⟩))
    (fun os started H enc _ => near_lifted os started H enc)
#print axioms near_holds
end Go.Proofs.Ytakkdkgbkedliaa
