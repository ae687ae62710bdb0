import Derived.Test.YtakkdkgbkedliaaGaM
import Derived.Test.YtakkdkgbkedliaaFlJ
set_option autoImplicit false
set_option linter.unusedVariables false
namespace Go.Proofs.Ytakkdkgbkedliaa
open Go.RowKit Lk
@[go_sem] theorem run_bits (x : Nat) (w : World) : (callFunc 37 #[.float .f64 x]).run Try.prog w = .ok (.value (.int .u64 x)) w :=
  run_callFunc_extern Try.func37 (by kernel_rfl) (by kernel_rfl) (by kernel_rfl) (e := Extern.MathFloatBits.float64bits) (by kernel_rfl) _ w
@[go_sem] theorem run_from (n : Int) (w : World) : (callFunc 36 #[.int .u64 n]).run Try.prog w = .ok (.value (.float .f64 n.toNat)) w :=
  run_callFunc_extern Try.func36 (by kernel_rfl) (by kernel_rfl) (by kernel_rfl) (e := Extern.MathFloatBits.float64frombits) (by kernel_rfl) _ w
theorem run_trunc {x : Nat} (h : ¬ Nan x) (w : World) : (callFunc 47 #[.float .f64 x]).run Try.prog w = .ok (.value (.float .f64 (trc x))) w := by
  rw [run_callFunc_extern Try.func47 (by kernel_rfl) (by kernel_rfl) (by kernel_rfl) (e := Extern.MathFloor.toIntegral "math.archTrunc" .zero) (by kernel_rfl), integral_of _ _ h]
  rfl
theorem trunc_walk (x : Nat) (w : World) (h : ¬ Nan x) : Calls Try.prog 45 #[.float .f64 x] w (fun e w' => e = .returned (.float .f64 (trc x)) ∧ w = w') := by
  have H := fun w => run_trunc h w
  go_enter Try.func45, Try.ntmps45
  go_wp2
  go_ret
  exact ⟨rfl, rfl⟩
def cps (x y : Nat) : Nat := wd (sgn y) (rg x)
theorem cps_form {x y : Nat} (hx : x < 2 ^ 64) (hy : y < 2 ^ 64) : (bits BinOp.or IntKind.u64 (bits BinOp.andNot IntKind.u64 (x : Int) 9223372036854775808) (bits BinOp.and IntKind.u64 (y : Int) 9223372036854775808)).toNat = cps x y := by
  have e1 := u64_andNot_nat x 9223372036854775808 hx (by decide)
  have e2 := u64_and_nat y 9223372036854775808 hy (by decide)
  rw [show ((9223372036854775808 : Nat) : Int) = 9223372036854775808 from rfl] at e1 e2
  rw [e1, e2]
  have e3 : x &&& (18446744073709551615 - 9223372036854775808) = x % 2 ^ 63 := by
    rw [show (18446744073709551615 - 9223372036854775808 : Nat) = 2 ^ 63 - 1 by decide, Nat.and_two_pow_sub_one_eq_mod]
  have e4 : y &&& 9223372036854775808 = 2 ^ 63 * (y / 2 ^ 63) := by
    have h1 : (y &&& 2 ^ 63) % 2 ^ 63 = 0 := by rw [Nat.and_mod_two_pow, Nat.mod_self, Nat.and_zero]
    have h2 : (y &&& 2 ^ 63) / 2 ^ 63 = y / 2 ^ 63 &&& 1 := by
      rw [← Nat.shiftRight_eq_div_pow, Nat.shiftRight_and_distrib, Nat.shiftRight_eq_div_pow, Nat.shiftRight_eq_div_pow, Nat.div_self (by decide)]
    have h3 : y / 2 ^ 63 = 0 ∨ y / 2 ^ 63 = 1 := by omega
    have h4 := Nat.div_add_mod (y &&& 2 ^ 63) (2 ^ 63)
    rw [h1, h2] at h4
    show y &&& 2 ^ 63 = _
    rcases h3 with h5 | h5 <;> rw [h5] at h4 ⊢ <;> rw [← h4] <;> rfl
  rw [e3, e4]
  have h6 : y / 2 ^ 63 = 0 ∨ y / 2 ^ 63 = 1 := by omega
  have h7 := Nat.mod_lt x (show 0 < 2 ^ 63 by decide)
  have e5 := u64_or_nat (x % 2 ^ 63) (2 ^ 63 * (y / 2 ^ 63)) (by omega) (by omega)
  rw [e5, Int.toNat_natCast, Nat.or_comm]
  have h8 := Nat.shiftLeft_add_eq_or_of_lt h7 (y / 2 ^ 63)
  rw [Nat.shiftLeft_eq, Nat.mul_comm] at h8
  rw [← h8]
  unfold cps wd sgn rg SGN
  rw [show (9223372036854775808 : Nat) = 2 ^ 63 from rfl]
  rcases h6 with h5 | h5 <;> rw [h5] <;> simp
theorem copysign_walk (x y : Nat) (w : World) (hx : x < 2 ^ 64) (hy : y < 2 ^ 64) : Calls Try.prog 46 #[.float .f64 x, .float .f64 y] w (fun e w' => e = .returned (.float .f64 (cps x y)) ∧ w = w') := by
  have H := Lib.hid (cps_form hx hy)
  go_enter Try.func46, Try.ntmps46
  go_wp2
  go_ret
  exact ⟨ret_float H.out, rfl⟩
/-- the part behind the point, with x's sign -/
theorem modf_walk (x : Nat) (w : World) (h : Lk.Fin x) (hx : x < 2 ^ 64) (ht : Lk.Fin (trc x)) : Calls Try.prog 42 #[.float .f64 x] w (fun e w' => e = .returned (.tuple #[.float .f64 (trc x), .float .f64 (cps (fsub x (trc x)) x)]) ∧ Below w.heap.size w w') := by
  have HN := Lib.hid (fsub_fin h ht).2.1
  have HL := Lib.hid (fsub_fin h ht).1
  have H0 := Lib.hid h.not_nan
  go_enter Try.func42, Try.ntmps42
  go_wp2_with (first | (go_at_call 45; refine (trunc_walk _ _ H0.out).mono ?_; rintro e' w1 ⟨rfl, rfl⟩) | (((with_reducible refine wpList_float (x := ?_) (y := ?_) (X := ?_) (Y := ?_) rfl rfl ?_ ?_ ?_ ?_ ?_ ?_); (· rfl); (rotate_left 4); (· rfl); (· rfl); (· first | assumption | exact Is.refl _); (· first | assumption | exact Is.refl _); intro v n hv hl); have e9 := hv.eq HN.out; subst e9) | (go_at_call 46; refine (copysign_walk _ _ _ HL.out hx).mono ?_; rintro e' w1 ⟨rfl, rfl⟩))
  refine bodyPost_ret (results_tmp2 rfl _ _ _) rfl ?_
  exact ⟨rfl, below_drewN (Below.refl _ _) _⟩
theorem wrap_walk (x : Nat) (w : World) (h : Lk.Fin x) (hx : x < 2 ^ 64) : Calls Try.prog 35 #[.float .f64 x] w (fun e w' => e = .returned (.float .f64 (wrp x)) ∧ Below w.heap.size w w') := by
  obtain ⟨q1, q2, q3, _⟩ := wrap_eq h hx
  have HT := Lib.hid (trc_between h).1
  have HF := Lib.hid (decide_eq_true h)
  have H1 : Hid (fadd (wri (cps (fsub x (trc x)) x)) 0 = wrp x) := Lib.hid q1
  have H2 : Hid (¬ Nan (wri (cps (fsub x (trc x)) x))) := Lib.hid q2
  have H3 := Lib.hid q3
  have H4 := Lib.hid h
  clear q1 q2 q3 h
  have W : Hid (wri (cps (fsub x (trc x)) x) = if cge (cps (fsub x (trc x)) x) 4602678819172646912 then fsub (cps (fsub x (trc x)) x) 4607182418800017408 else if clt (cps (fsub x (trc x)) x) 13826050856027422720 then fadd (cps (fsub x (trc x)) x) 4607182418800017408 else cps (fsub x (trc x)) x) := Lib.hid rfl
  generalize hr : cps (fsub x (trc x)) x = r at *
  have HR := Lib.hid hr
  clear hr
  have FI : ∀ v, Is v (fop BinOp.sub x x) → (FloatKind.f64.format.order v 0 != some Ordering.eq) = false := fun v hv => by
    have := fine_is hv
    rw [HF.out] at this
    simp only [bne, this, Bool.not_true]
  have FI' := Lib.hid FI
  clear FI
  cases hg : cge r 4602678819172646912
  · have t1 : (FloatKind.f64.format.order r 4602678819172646912 == some Ordering.gt || FloatKind.f64.format.order r 4602678819172646912 == some Ordering.eq) = false := hg
    cases hc : clt r 13826050856027422720
    · have t2 : (FloatKind.f64.format.order r 13826050856027422720 == some Ordering.lt) = false := hc
      have E : Hid (∀ v, Is v (fop BinOp.add r 0) → v = wrp x) := Lib.hid (fun v hv => by
        have e := W.out; rw [hg, hc] at e; simp only [Bool.false_eq_true, if_false] at e
        have e2 := H1.out; rw [e] at e2
        have h3 := H3.out; rw [← e2] at h3
        rw [← e2]; exact hv.eq h3)
      clear hg hc
      go_enter Try.func35, Try.ntmps35
      go_wp2_with (first | (((with_reducible refine wpList_float (x := ?_) (y := ?_) (X := ?_) (Y := ?_) rfl rfl ?_ ?_ ?_ ?_ ?_ ?_); (· rfl); (rotate_left 4); (· rfl); (· rfl); (· first | assumption | exact Is.refl _); (· first | assumption | exact Is.refl _); intro v n hv hl); first | (have e9 := FI'.out _ hv) | (have e9 := E.out _ hv; subst e9)) | (go_at_call 42; refine (modf_walk _ _ H4.out hx HT.out).mono ?_; rw [HR.out]; rintro e' w1 ⟨rfl, hb⟩))
      go_ret
      exact ⟨rfl, below_drewN ((below_drewN (Below.refl _ _) _).trans hb) _⟩
    · have t2 : (FloatKind.f64.format.order r 13826050856027422720 == some Ordering.lt) = true := hc
      have e := W.out
      rw [hg, hc] at e
      simp only [Bool.false_eq_true, if_false, if_true] at e
      have E1 : Hid (∀ v, Is v (fop BinOp.add r 4607182418800017408) → v = wri r) := Lib.hid (fun v hv => by
        have h2 := H2.out; rw [e] at h2 ⊢; exact hv.eq h2)
      have E : Hid (∀ v, Is v (fop BinOp.add (wri r) 0) → v = wrp x) := Lib.hid (fun v hv => by
        have h3 := H3.out; rw [← H1.out] at h3 ⊢; exact hv.eq h3)
      clear hg hc e
      go_enter Try.func35, Try.ntmps35
      go_wp2_with (first | (((with_reducible refine wpList_float (x := ?_) (y := ?_) (X := ?_) (Y := ?_) rfl rfl ?_ ?_ ?_ ?_ ?_ ?_); (· rfl); (rotate_left 4); (· rfl); (· rfl); (· first | assumption | exact Is.refl _); (· first | assumption | exact Is.refl _); intro v n hv hl); first | (have e9 := FI'.out _ hv) | (have e9 := E1.out _ hv; subst e9; clear hv) | (have e9 := E.out _ hv; subst e9)) | (go_at_call 42; refine (modf_walk _ _ H4.out hx HT.out).mono ?_; rw [HR.out]; rintro e' w1 ⟨rfl, hb⟩))
      go_ret
      exact ⟨rfl, below_drewN ((below_drewN (Below.refl _ _) _).trans hb) _⟩
  · have t1 : (FloatKind.f64.format.order r 4602678819172646912 == some Ordering.gt || FloatKind.f64.format.order r 4602678819172646912 == some Ordering.eq) = true := hg
    have e := W.out
    rw [hg] at e
    simp only [if_true] at e
    have E1 : Hid (∀ v, Is v (fop BinOp.sub r 4607182418800017408) → v = wri r) := Lib.hid (fun v hv => by
      have h2 := H2.out; rw [e] at h2 ⊢; exact hv.eq h2)
    have E : Hid (∀ v, Is v (fop BinOp.add (wri r) 0) → v = wrp x) := Lib.hid (fun v hv => by
      have h3 := H3.out; rw [← H1.out] at h3 ⊢; exact hv.eq h3)
    clear hg e
    go_enter Try.func35, Try.ntmps35
    go_wp2_with (first | (((with_reducible refine wpList_float (x := ?_) (y := ?_) (X := ?_) (Y := ?_) rfl rfl ?_ ?_ ?_ ?_ ?_ ?_); (· rfl); (rotate_left 4); (· rfl); (· rfl); (· first | assumption | exact Is.refl _); (· first | assumption | exact Is.refl _); intro v n hv hl); first | (have e9 := FI'.out _ hv) | (have e9 := E1.out _ hv; subst e9; clear hv) | (have e9 := E.out _ hv; subst e9)) | (go_at_call 42; refine (modf_walk _ _ H4.out hx HT.out).mono ?_; rw [HR.out]; rintro e' w1 ⟨rfl, hb⟩))
    go_ret
    exact ⟨rfl, below_drewN ((below_drewN (Below.refl _ _) _).trans hb) _⟩
end Go.Proofs.Ytakkdkgbkedliaa
