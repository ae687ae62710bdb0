import Derived.Test.YtakkdkgbkedliaaGaT
set_option autoImplicit false
set_option linter.unusedVariables false
namespace Go.Proofs.Ytakkdkgbkedliaa
open Go.RowKit Lk
theorem xor_top (x : Nat) (h : x < 2 ^ 64) : x ^^^ 2 ^ 63 = fneg x := by
  have h1 : (x ^^^ 2 ^ 63) % 2 ^ 63 = x % 2 ^ 63 := by rw [Nat.xor_mod_two_pow]; exact Nat.xor_zero _
  have h2 : (x ^^^ 2 ^ 63) / 2 ^ 63 = x / 2 ^ 63 ^^^ 1 := by
    rw [← Nat.shiftRight_eq_div_pow, Nat.shiftRight_xor_distrib, Nat.shiftRight_eq_div_pow, Nat.shiftRight_eq_div_pow]
  have h3 : x / 2 ^ 63 < 2 := by omega
  have h4 := Nat.div_add_mod (x ^^^ 2 ^ 63) (2 ^ 63)
  rw [h1, h2] at h4
  unfold fneg wd sgn rg SGN
  simp only [show (9223372036854775808 : Nat) = 2 ^ 63 from rfl]
  have h6 : x / 2 ^ 63 = 0 ∨ x / 2 ^ 63 = 1 := by omega
  generalize x ^^^ 2 ^ 63 = y at *
  rcases h6 with h5 | h5
  · rw [h5, show (0 : Nat) ^^^ 1 = 1 from rfl] at h4
    rw [h5]
    simp only [Nat.zero_mod, show ((0 : Nat) == 1) = false from rfl, Bool.not_false, if_true]
    omega
  · rw [h5, show (1 : Nat) ^^^ 1 = 0 from rfl] at h4
    rw [h5]
    simp only [show (1 : Nat) % 2 = 1 from rfl, beq_self_eq_true, Bool.not_true, Bool.false_eq_true, if_false]
    omega
theorem neg_fneg (x : Nat) (h : x < 2 ^ 64) : Op.negFloat .f64 x = fneg x := xor_top x h
@[go_sem] theorem run_neg_float (x : Nat) (w : World) : (Op.unary UnOp.neg (.float .f64 x)).run Try.prog w = .ok (.float .f64 (Op.negFloat .f64 x)) w := rfl


theorem abs_walk (x : Nat) (w : World) (hl : x < 2 ^ 64) : Calls Try.prog 20 #[.float .f64 x] w (fun e w' => e = .returned (.float .f64 (fabs x)) ∧ w = w') := by
  have H := Lib.hid (andNot_sign hl)
  go_enter Try.func20, Try.ntmps20
  go_wp2
  go_ret
  exact ⟨ret_float H.out, rfl⟩
theorem ne_self (x : Nat) : (FloatKind.f64.format.order x x != some Ordering.eq) = decide (Nan x) := by
  rw [fmt64, Bool.eq_iff_iff, bne_iff_ne, ne_eq, o_self]; simp
theorem isnan_walk (x : Nat) (w : World) : Calls Try.prog 43 #[.float .f64 x] w (fun e w' => e = .returned (.bool (decide (Nan x))) ∧ w = w') := by
  go_enter Try.func43, Try.ntmps43
  go_wp2
  go_ret
  exact ⟨ret_bool (ne_self x), rfl⟩
theorem isinf_walk (x : Nat) (w : World) (hl : x < 2 ^ 64) : Calls Try.prog 44 #[.float .f64 x, .int .i64 0] w (fun e w' => e = .returned (.bool (decide (Inf x))) ∧ w = w') := by
  go_enter Try.func44, Try.ntmps44
  go_wp2_with (go_at_call 20; refine (abs_walk _ _ hl).mono ?_; rintro e w' ⟨rfl, rfl⟩)
  go_ret
  exact ⟨ret_bool cgt_max_fabs, rfl⟩
set_option maxHeartbeats 4000000 in
theorem rwrap_walk (x : Nat) (w : World) (h : Lk.Fin x) (hx : x < 2 ^ 64) : Calls Try.prog 39 #[.float .f64 x] w (fun e w' => e = .returned (.float .f64 (wrp x)) ∧ Below w.heap.size w w') := by
  have HF := Lib.hid h
  have hn1 : ¬ Nan x := h.not_nan
  have hn2 : ¬ Inf x := by unfold Lk.Fin at h; unfold Inf; omega
  obtain ⟨_, _, q3, _⟩ := wrap_eq h hx
  have HD := Lib.hid (fsub_fin h (trc_between h).1).2.1
  have W : Hid (wrp x = if cge (fsub x (trc x)) 4602678819172646912 then fsub (fsub x (trc x)) 4607182418800017408 else if clt (fsub x (trc x)) 13826050856027422720 then fadd (fsub x (trc x)) 4607182418800017408 else fsub x (trc x)) := Lib.hid rfl
  have HQ := Lib.hid q3
  clear q3
  obtain ⟨d, hd⟩ : ∃ d, d = fsub x (trc x) := ⟨_, rfl⟩
  rw [← hd] at W HD
  have HDD := Lib.hid hd
  have D : Hid (∀ v, Is v (fop BinOp.sub x (trc x)) → v = d) := Lib.hid (fun v hv => by
    have := HD.out; rw [hd] at this ⊢; exact hv.eq this)
  clear hd
  have tail : Hid (∀ t1 t2 : Bool, cge d 4602678819172646912 = t1 → clt d 13826050856027422720 = t2 → wrp x = if t1 then fsub d 4607182418800017408 else if t2 then fadd d 4607182418800017408 else d) := Lib.hid (fun t1 t2 h1 h2 => by rw [W.out, h1, h2])
  cases hlt : clt x 0
  · have l1 : (FloatKind.f64.format.order x 0 == some Ordering.lt) = false := hlt
    have FL := Lib.hid (trc_pos h hlt).symm
    clear hlt h
    cases hg : cge d 4602678819172646912 <;> cases hc : clt d 13826050856027422720
    all_goals
      have e := tail.out _ _ hg hc
      simp only [Bool.false_eq_true, if_false, if_true] at e
      have E := Lib.hid e
      clear e
      have t1 : (FloatKind.f64.format.order d 4602678819172646912 == some Ordering.gt || FloatKind.f64.format.order d 4602678819172646912 == some Ordering.eq) = _ := hg
      have t2 : (FloatKind.f64.format.order d 13826050856027422720 == some Ordering.lt) = _ := hc
      have E2 : Hid (∀ v X, Is v X → X = wrp x → v = wrp x) := Lib.hid (fun v X hv hX => by
        have := HQ.out; rw [← hX] at this ⊢; exact hv.eq this)
      clear hg hc
      go_enter Try.func39, Try.ntmps39
      go_wp2_with (first | (go_at_call 43; refine (isnan_walk _ _).mono ?_; rintro e' w1 ⟨rfl, rfl⟩) | (go_at_call 44; refine (isinf_walk _ _ hx).mono ?_; rintro e' w1 ⟨rfl, rfl⟩) | (go_at_call 31; refine (floor_walk _ _ hn1).mono ?_; rw [FL.out]; rintro e' w1 ⟨rfl, rfl⟩) | (((with_reducible refine wpList_float (x := ?_) (y := ?_) (X := ?_) (Y := ?_) rfl rfl ?_ ?_ ?_ ?_ ?_ ?_); (· rfl); (rotate_left 4); (· rfl); (· rfl); (· first | assumption | exact Is.refl _); (· first | assumption | exact Is.refl _); intro v n hv hl); first | (have e9 := D.out _ hv; subst e9; clear hv) | (have e9 := E2.out _ _ hv E.out.symm; subst e9; clear hv)))
      go_ret
    · exact ⟨ret_float E.out.symm, below_drewN (Below.refl _ _) _⟩
    · exact ⟨rfl, below_drewN (Below.refl _ _) _⟩
    · exact ⟨rfl, below_drewN (Below.refl _ _) _⟩
    · exact ⟨rfl, below_drewN (Below.refl _ _) _⟩
  · have l1 : (FloatKind.f64.format.order x 0 == some Ordering.lt) = true := hlt
    obtain ⟨c1, c2, c3⟩ := trc_neg h hlt
    have N1 := neg_fneg x hx
    have N2 : Op.negFloat .f64 (flr (fneg x)) = trc x := by rw [neg_fneg _ c3, c1]
    have hn3 : ¬ Nan (fneg x) := fun hh => hn1 (nan_fneg.1 hh)
    clear hlt h c1 c2 c3
    cases hg : cge d 4602678819172646912 <;> cases hc : clt d 13826050856027422720
    all_goals
      have e := tail.out _ _ hg hc
      simp only [Bool.false_eq_true, if_false, if_true] at e
      have E := Lib.hid e
      clear e
      have t1 : (FloatKind.f64.format.order d 4602678819172646912 == some Ordering.gt || FloatKind.f64.format.order d 4602678819172646912 == some Ordering.eq) = _ := hg
      have t2 : (FloatKind.f64.format.order d 13826050856027422720 == some Ordering.lt) = _ := hc
      have E2 : Hid (∀ v X, Is v X → X = wrp x → v = wrp x) := Lib.hid (fun v X hv hX => by
        have := HQ.out; rw [← hX] at this ⊢; exact hv.eq this)
      clear hg hc
      go_enter Try.func39, Try.ntmps39
      go_wp2_with (first | (go_at_call 43; refine (isnan_walk _ _).mono ?_; rintro e' w1 ⟨rfl, rfl⟩) | (go_at_call 44; refine (isinf_walk _ _ hx).mono ?_; rintro e' w1 ⟨rfl, rfl⟩) | (go_at_call 31; first | (refine (floor_walk _ _ hn1).mono ?_; rintro e' w1 ⟨rfl, rfl⟩) | (refine (floor_walk _ _ hn3).mono ?_; rintro e' w1 ⟨rfl, rfl⟩)) | (((with_reducible refine wpList_float (x := ?_) (y := ?_) (X := ?_) (Y := ?_) rfl rfl ?_ ?_ ?_ ?_ ?_ ?_); (· rfl); (rotate_left 4); (· rfl); (· rfl); (· first | assumption | exact Is.refl _); (· first | assumption | exact Is.refl _); intro v n hv hl); first | (have e9 := D.out _ hv; subst e9; clear hv) | (have e9 := E2.out _ _ hv E.out.symm; subst e9; clear hv)))
      go_ret
    · exact ⟨ret_float E.out.symm, below_drewN (Below.refl _ _) _⟩
    · exact ⟨rfl, below_drewN (Below.refl _ _) _⟩
    · exact ⟨rfl, below_drewN (Below.refl _ _) _⟩
    · exact ⟨rfl, below_drewN (Below.refl _ _) _⟩
end Go.Proofs.Ytakkdkgbkedliaa
