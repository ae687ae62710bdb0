import Derived.Test.YtakkdkgbkedliaaGaB2
set_option autoImplicit false
set_option linter.unusedVariables false
namespace Go.Proofs.Ytakkdkgbkedliaa
open Go.RowKit Lk
def sameF (x y : Nat) : Bool := decide ((Nan x ∧ Nan y) ∨ (¬ Nan x ∧ ¬ Nan y ∧ x = y))
theorem sameF_is {x y : Nat} (h : Is x y) : sameF x y = true := by
  unfold sameF; rw [decide_eq_true_eq]
  rcases h with h | ⟨rfl, h⟩
  · exact .inl h
  · exact .inr ⟨h, h, rfl⟩
theorem samefloat_walk (x y : Nat) (w : World) : Calls Try.prog 33 #[.float .f64 x, .float .f64 y] w (fun e w' => e = .returned (.bool (sameF x y)) ∧ w = w') := by
  have h1 := ne_self x
  have h2 := ne_self y
  have h1' := eq_self x
  have h2' := eq_self y
  have H : Hid (sameF x y = decide ((Nan x ∧ Nan y) ∨ (¬ Nan x ∧ ¬ Nan y ∧ x = y))) := rfl
  by_cases c1 : Nan x <;> by_cases c2 : Nan y <;> simp only [c1, c2, decide_true, decide_false, not_true_eq_false, not_false_eq_true] at h1 h2 h1' h2' <;> have K1 := Lib.hid c1 <;> have K2 := Lib.hid c2 <;> clear c1 c2
  all_goals
    go_enter Try.func33, Try.ntmps33
    go_wp2
    go_ret
    refine ⟨ret_bool ?_, rfl⟩
    rw [H.out]
    have k1 := K1.out
    have k2 := K2.out
    first | (simp [k1, k2]; done) | (simp only [k1, k2, and_false, false_or, not_false_eq_true, true_and]; show ((x : Int) == (y : Int)) = decide (x = y); rw [Bool.eq_iff_iff, beq_iff_eq, decide_eq_true_eq]; omega)

theorem same_walk (x y : Nat) (w : World) : Calls Try.prog 15 #[.float .f64 x, .float .f64 y] w (fun e w' => e = .returned (.bool (sameF x y)) ∧ w = w') := by
  go_enter Try.func15, Try.ntmps15
  go_wp2_with (go_at_call 33; refine (samefloat_walk _ _ _).mono ?_; rintro e w1 ⟨rfl, rfl⟩)
  go_ret
  exact ⟨rfl, rfl⟩
theorem plain_walk (w : World) : Calls Try.prog 26 #[] w (fun e w' => e = .returned (btv 4621819117588971520 4598175219545276416 4652007308841189376 100 8) ∧ Below w.heap.size w w') := by
  go_enter Try.func26, Try.ntmps26
  go_wp2
  refine bodyPost_ret (v := ?_) ?_ rfl ?_
  rotate_left
  · simp [results, Try.results26, go_sem]; rfl
  · exact ⟨rfl, by (repeat' (first | exact Below.refl _ _ | refine below_drewN ?_ _ | refine Below.setCell ?_ (by first | exact Nat.le_refl _ | (simp; done) | (simp; omega)) _ | refine Below.alloc ?_ (by first | exact Nat.le_refl _ | (simp; done) | (simp; omega)) _))⟩
end Go.Proofs.Ytakkdkgbkedliaa
