import Derived.Test.YtakkdkgbkedliaaGaC
set_option autoImplicit false
set_option linter.unusedVariables false
namespace Go.Proofs.Ytakkdkgbkedliaa
open Go.RowKit Lk
def HALF : Nat := 4602678819172646912
def mtr (c : Nat) (N : Int) : Nat := fmul (fadd (floatOfInt .f64 N) 4602678819172646912) c
/-- how far, and what is wrong -/
def met (c v r : Nat) (e n k t : Int) : Nat × Int :=
  if chk c v r e n ≠ 0 then (0, chk c v r e n)
  else if k < 0 ∨ e ≤ k ∨ t < 0 then (0, 2)
  else if 1125899906842624 ≤ t * e + k then (0, 3)
  else (if Lk.Fin (mtr c (t * e + k)) then mtr c (t * e + k) else 0, if Lk.Fin (mtr c (t * e + k)) then 0 else 6)
def R2 (x : Nat × Int) (w : World) (e' : Ending) (w' : World) : Prop := e' = .returned (.tuple #[.float .f64 x.1, .int .i64 x.2]) ∧ Below w.heap.size w w'
theorem r2 {x y : Nat × Int} (h : x = y) : Ending.returned (.tuple #[.float .f64 y.1, .int .i64 y.2]) = .returned (.tuple #[.float .f64 x.1, .int .i64 x.2]) := by rw [h]
theorem half_nn {N : Int} (h : N.natAbs ≤ 2 ^ 53) : ¬ Nan (fadd (floatOfInt .f64 N) 4602678819172646912) :=
  (fadd_fin (V.ofInt h).1.1 (by decide +kernel)).2.1
theorem half_pos {N : Int} (h0 : 0 ≤ N) (h : N ≤ 2 ^ 52) : Lk.Fin (fadd (floatOfInt .f64 N) 4602678819172646912) ∧ ev (fadd (floatOfInt .f64 N) 4602678819172646912) ≠ 0 := by
  obtain ⟨⟨f1, f2⟩, _⟩ := V.ofInt (n := N) (by omega)
  obtain ⟨_, g2, g3, _⟩ := fadd_fin f1 (show Lk.Fin 4602678819172646912 by decide +kernel)
  have hh : ev 4602678819172646912 = 1 / 2 := by kernel_rfl
  rw [f2, hh] at g3
  have l0 : (0 : Rat) ≤ (N : Rat) := by exact_mod_cast h0
  have lo : rc (1 / 2) ≤ ev (fadd (floatOfInt .f64 N) 4602678819172646912) := by rw [g3]; exact rc_mono (by grind)
  have l1 : rc (1 / 2) = 1 / 2 := by rw [← hh]; exact rc_ev _ (by decide +kernel)
  have hi : ev (fadd (floatOfInt .f64 N) 4602678819172646912) ≤ ((4503599627370497 : Int) : Rat) := by
    rw [g3, ← rc_int (n := 4503599627370497) (by decide)]
    refine rc_mono ?_
    have : (N : Rat) ≤ ((4503599627370496 : Int) : Rat) := Rat.intCast_le_intCast.2 h
    have e1 : ((4503599627370497 : Int) : Rat) = ((4503599627370496 : Int) : Rat) + 1 := by decide +kernel
    rw [e1]; grind
  have hp := int_lt_p2 (n := 4503599627370497) (by decide)
  refine ⟨fin_of_ev g2 ?_ ?_, ?_⟩
  · have := p2_pos 1024; grind
  · grind
  · rw [l1] at lo; grind
theorem mtr_nn {c : Nat} {N : Int} (h0 : 0 ≤ N) (h : N ≤ 2 ^ 52) (hc : okf c = true) : ¬ Nan (mtr c N) := (fmul_fin (half_pos h0 h).1 (okf_pos hc).1).2.1
theorem many {t e k F : Int} (he : 1 ≤ e) (hk : 0 ≤ k) (hke : k < e) (hF : k < F) : (F - 1 - k) / e < t ↔ F ≤ t * e + k := by
  constructor
  · intro h
    have h1 : (F - 1 - k) / e + 1 ≤ t := h
    have h2 := Int.mul_le_mul_of_nonneg_right h1 (show 0 ≤ e by omega)
    have h3 := Int.emod_add_mul_ediv (F - 1 - k) e
    have h4 := Int.emod_lt_of_pos (F - 1 - k) (show 0 < e by omega)
    rw [Int.add_mul, Int.one_mul, Int.mul_comm ((F - 1 - k) / e) e] at h2
    omega
  · intro h
    apply Decidable.byContradiction
    intro hc
    have h1 : t ≤ (F - 1 - k) / e := by omega
    have h2 := Int.mul_le_mul_of_nonneg_right h1 (show 0 ≤ e by omega)
    have h3 := Int.ediv_mul_le (F - 1 - k) (show e ≠ 0 by omega)
    omega
set_option maxHeartbeats 4000000 in
theorem metres_walk (c v r : Nat) (e n k t : Int) (w : World) (h1 : -9223372036854775808 ≤ e) (h2 : e ≤ 9223372036854775807) (h3 : -9223372036854775808 ≤ n) (h4 : n ≤ 9223372036854775807) (h5 : -9223372036854775808 ≤ k) (h6 : k ≤ 9223372036854775807) (h7 : -9223372036854775808 ≤ t) (h8 : t ≤ 9223372036854775807) :
    Calls Try.prog 13 #[btv c v r e n, .int .i64 k, .int .i64 t] w (R2 (met c v r e n k t) w) := by
  by_cases hC : chk c v r e n = 0
  · obtain ⟨oc, _, _, e1, e2, _⟩ := chk_zero hC
    have HC := Lib.hid hC
    by_cases k1 : k < 0
    · have E : Hid (met c v r e n k t = (0, 2)) := Lib.hid (by unfold met; rw [if_neg (by simp [hC]), if_pos (by omega)])
      clear hC oc
      go_enter Try.func13, Try.ntmps13
      go_wp2_with (go_at_call 9; refine (check_walk c v r e n _ h1 h2 h3 h4).mono ?_; rw [HC.out]; rintro e' w1 ⟨rfl, hb⟩; have c0 := (hb.cell (p := ⟨w.heap.size, 0, none⟩) (by simp)).trans (by go_simp : _ = some (.float .f64 c)); have c3 := (hb.cell (p := ⟨w.heap.size, 3, none⟩) (by simp)).trans (by go_simp : _ = some (.int .i64 e)); have hB : Below w.heap.size w w1 := ((Below.refl _ _).alloc (Nat.le_refl _) _).trans (hb.mono (by simp)))
      refine bodyPost_ret (results_tmp2 rfl _ _ _) rfl ?_
      exact ⟨r2 E.out, hB⟩
    · by_cases k2 : e ≤ k
      · have E : Hid (met c v r e n k t = (0, 2)) := Lib.hid (by unfold met; rw [if_neg (by simp [hC]), if_pos (by omega)])
        clear hC oc
        go_enter Try.func13, Try.ntmps13
        go_wp2_with (go_at_call 9; refine (check_walk c v r e n _ h1 h2 h3 h4).mono ?_; rw [HC.out]; rintro e' w1 ⟨rfl, hb⟩; have c0 := (hb.cell (p := ⟨w.heap.size, 0, none⟩) (by simp)).trans (by go_simp : _ = some (.float .f64 c)); have c3 := (hb.cell (p := ⟨w.heap.size, 3, none⟩) (by simp)).trans (by go_simp : _ = some (.int .i64 e)); have hB : Below w.heap.size w w1 := ((Below.refl _ _).alloc (Nat.le_refl _) _).trans (hb.mono (by simp)))
        refine bodyPost_ret (results_tmp2 rfl _ _ _) rfl ?_
        exact ⟨r2 E.out, hB⟩
      · by_cases k3 : t < 0
        · have E : Hid (met c v r e n k t = (0, 2)) := Lib.hid (by unfold met; rw [if_neg (by simp [hC]), if_pos (by omega)])
          clear hC oc
          go_enter Try.func13, Try.ntmps13
          go_wp2_with (go_at_call 9; refine (check_walk c v r e n _ h1 h2 h3 h4).mono ?_; rw [HC.out]; rintro e' w1 ⟨rfl, hb⟩; have c0 := (hb.cell (p := ⟨w.heap.size, 0, none⟩) (by simp)).trans (by go_simp : _ = some (.float .f64 c)); have c3 := (hb.cell (p := ⟨w.heap.size, 3, none⟩) (by simp)).trans (by go_simp : _ = some (.int .i64 e)); have hB : Below w.heap.size w w1 := ((Below.refl _ _).alloc (Nat.le_refl _) _).trans (hb.mono (by simp)))
          refine bodyPost_ret (results_tmp2 rfl _ _ _) rfl ?_
          exact ⟨r2 E.out, hB⟩
        · have hm := many (t := t) (e := e) (k := k) (F := 1125899906842624) e1 (by omega) (by omega) (by omega)
          have he0 : ¬ e = 0 := by omega
          have he1 : ¬ e = -1 := by omega
          have hd0 : 0 ≤ (1125899906842623 - k) / e := Int.ediv_nonneg (by omega) (by omega)
          have hd1 : (1125899906842623 - k) / e ≤ 1125899906842623 - k := Int.ediv_le_self _ (by omega)
          have hw : IntKind.i64.wrap ((1125899906842623 - k) / e) = (1125899906842623 - k) / e := by rw [IntKind.wrap_i64]; omega
          by_cases hF : 1125899906842624 ≤ t * e + k
          · have E : Hid (met c v r e n k t = (0, 3)) := Lib.hid (by unfold met; rw [if_neg (by simp [hC]), if_neg (by omega), if_pos hF])
            have hlt : (1125899906842623 - k) / e < t := hm.2 hF
            clear hC oc
            go_enter Try.func13, Try.ntmps13
            go_wp2_with (go_at_call 9; refine (check_walk c v r e n _ h1 h2 h3 h4).mono ?_; rw [HC.out]; rintro e' w1 ⟨rfl, hb⟩; have c0 := (hb.cell (p := ⟨w.heap.size, 0, none⟩) (by simp)).trans (by go_simp : _ = some (.float .f64 c)); have c3 := (hb.cell (p := ⟨w.heap.size, 3, none⟩) (by simp)).trans (by go_simp : _ = some (.int .i64 e)); have hB : Below w.heap.size w w1 := ((Below.refl _ _).alloc (Nat.le_refl _) _).trans (hb.mono (by simp)))
            refine bodyPost_ret (results_tmp2 rfl _ _ _) rfl ?_
            exact ⟨r2 E.out, hB⟩
          · have hlt : ¬ (1125899906842623 - k) / e < t := fun h => hF (hm.1 h)
            have hp0 : 0 ≤ t * e := Int.mul_nonneg (by omega) (by omega)
            have hw2 : wrap64 (t * e) = t * e := by unfold wrap64; omega
            have hw3 : wrap64 (t * e + k) = t * e + k := by unfold wrap64; omega
            have E : Hid (met c v r e n k t = (if Lk.Fin (mtr c (t * e + k)) then mtr c (t * e + k) else 0, if Lk.Fin (mtr c (t * e + k)) then 0 else 6)) := Lib.hid (by unfold met; rw [if_neg (by simp [hC]), if_neg (by omega), if_neg hF])
            have N1 := Lib.hid (half_nn (N := t * e + k) (by omega))
            have N2 : Hid (¬ Nan (fmul (fadd (floatOfInt .f64 (t * e + k)) 4602678819172646912) c)) := Lib.hid (mtr_nn (c := c) (N := t * e + k) (by omega) (by omega) oc)
            clear hC oc hm
            by_cases hfin : Lk.Fin (fmul (fadd (floatOfInt .f64 (t * e + k)) 4602678819172646912) c)
            · have E2 : Hid (met c v r e n k t = (mtr c (t * e + k), 0)) := Lib.hid (by rw [E.out]; unfold mtr; rw [if_pos hfin, if_pos hfin])
              go_enter Try.func13, Try.ntmps13
              go_wp2_with (first | (go_at_call 9; refine (check_walk c v r e n _ h1 h2 h3 h4).mono ?_; rw [HC.out]; rintro e' w1 ⟨rfl, hb⟩; have c0 := (hb.cell (p := ⟨w.heap.size, 0, none⟩) (by simp)).trans (by go_simp : _ = some (.float .f64 c)); have c3 := (hb.cell (p := ⟨w.heap.size, 3, none⟩) (by simp)).trans (by go_simp : _ = some (.int .i64 e)); have hB : Below w.heap.size w w1 := ((Below.refl _ _).alloc (Nat.le_refl _) _).trans (hb.mono (by simp))) | (((with_reducible refine wpList_float (x := ?_) (y := ?_) (X := ?_) (Y := ?_) rfl rfl ?_ ?_ ?_ ?_ ?_ ?_); (· rfl); (rotate_left 4); (· rfl); (· rfl); (· first | assumption | exact Is.refl _); (· first | assumption | exact Is.refl _); intro v n hv hl); first | (have e9 := hv.eq N1.out; subst e9) | (have e9 := hv.eq N2.out; subst e9)) | (go_at_call 32; refine (told_walk _ _).mono ?_; rintro e' w2 ⟨rfl, hb2⟩))
              refine bodyPost_ret (results_tmp2 rfl _ _ _) rfl ?_
              exact ⟨r2 E2.out, (Below.drew hB).trans (hb2.mono (by have := hB.size; simp; omega))⟩
            · have E2 : Hid (met c v r e n k t = (0, 6)) := Lib.hid (by rw [E.out]; unfold mtr; rw [if_neg hfin, if_neg hfin])
              go_enter Try.func13, Try.ntmps13
              go_wp2_with (first | (go_at_call 9; refine (check_walk c v r e n _ h1 h2 h3 h4).mono ?_; rw [HC.out]; rintro e' w1 ⟨rfl, hb⟩; have c0 := (hb.cell (p := ⟨w.heap.size, 0, none⟩) (by simp)).trans (by go_simp : _ = some (.float .f64 c)); have c3 := (hb.cell (p := ⟨w.heap.size, 3, none⟩) (by simp)).trans (by go_simp : _ = some (.int .i64 e)); have hB : Below w.heap.size w w1 := ((Below.refl _ _).alloc (Nat.le_refl _) _).trans (hb.mono (by simp))) | (((with_reducible refine wpList_float (x := ?_) (y := ?_) (X := ?_) (Y := ?_) rfl rfl ?_ ?_ ?_ ?_ ?_ ?_); (· rfl); (rotate_left 4); (· rfl); (· rfl); (· first | assumption | exact Is.refl _); (· first | assumption | exact Is.refl _); intro v n hv hl); first | (have e9 := hv.eq N1.out; subst e9) | (have e9 := hv.eq N2.out; subst e9)) | (go_at_call 32; refine (told_walk _ _).mono ?_; rintro e' w2 ⟨rfl, hb2⟩))
              refine bodyPost_ret (results_tmp2 rfl _ _ _) rfl ?_
              exact ⟨r2 E2.out, (Below.drew hB).trans (hb2.mono (by have := hB.size; simp; omega))⟩
  · have E : Hid (met c v r e n k t = (0, chk c v r e n)) := Lib.hid (by unfold met; rw [if_pos hC])
    go_enter Try.func13, Try.ntmps13
    go_wp2_with (go_at_call 9; refine (check_walk c v r e n _ h1 h2 h3 h4).mono ?_; rintro e' w1 ⟨rfl, hb⟩; have hB : Below w.heap.size w w1 := ((Below.refl _ _).alloc (Nat.le_refl _) _).trans (hb.mono (by simp)))
    refine bodyPost_ret (results_tmp2 rfl _ _ _) rfl ?_
    exact ⟨r2 E.out, hB⟩
set_option maxHeartbeats 4000000 in
theorem rmetres_walk (c v r : Nat) (e n k t : Int) (w : World) (h1 : -9223372036854775808 ≤ e) (h2 : e ≤ 9223372036854775807) (h3 : -9223372036854775808 ≤ n) (h4 : n ≤ 9223372036854775807) (h5 : -9223372036854775808 ≤ k) (h6 : k ≤ 9223372036854775807) (h7 : -9223372036854775808 ≤ t) (h8 : t ≤ 9223372036854775807) :
    Calls Try.prog 14 #[btv c v r e n, .int .i64 k, .int .i64 t] w (R2 (met c v r e n k t) w) := by
  by_cases hC : chk c v r e n = 0
  · obtain ⟨oc, _, _, e1, e2, _⟩ := chk_zero hC
    have HC := Lib.hid hC
    by_cases k1 : k < 0
    · have E : Hid (met c v r e n k t = (0, 2)) := Lib.hid (by unfold met; rw [if_neg (by simp [hC]), if_pos (by omega)])
      clear hC oc
      go_enter Try.func14, Try.ntmps14
      go_wp2_with (go_at_call 10; refine (rcheck_walk c v r e n _ h1 h2 h3 h4).mono ?_; rw [HC.out]; rintro e' w1 ⟨rfl, hb⟩; have c0 := (hb.cell (p := ⟨w.heap.size, 0, none⟩) (by simp)).trans (by go_simp : _ = some (.float .f64 c)); have c3 := (hb.cell (p := ⟨w.heap.size, 3, none⟩) (by simp)).trans (by go_simp : _ = some (.int .i64 e)); have hB : Below w.heap.size w w1 := ((Below.refl _ _).alloc (Nat.le_refl _) _).trans (hb.mono (by simp)))
      refine bodyPost_ret (results_tmp2 rfl _ _ _) rfl ?_
      exact ⟨r2 E.out, hB⟩
    · by_cases k2 : e ≤ k
      · have E : Hid (met c v r e n k t = (0, 2)) := Lib.hid (by unfold met; rw [if_neg (by simp [hC]), if_pos (by omega)])
        clear hC oc
        go_enter Try.func14, Try.ntmps14
        go_wp2_with (go_at_call 10; refine (rcheck_walk c v r e n _ h1 h2 h3 h4).mono ?_; rw [HC.out]; rintro e' w1 ⟨rfl, hb⟩; have c0 := (hb.cell (p := ⟨w.heap.size, 0, none⟩) (by simp)).trans (by go_simp : _ = some (.float .f64 c)); have c3 := (hb.cell (p := ⟨w.heap.size, 3, none⟩) (by simp)).trans (by go_simp : _ = some (.int .i64 e)); have hB : Below w.heap.size w w1 := ((Below.refl _ _).alloc (Nat.le_refl _) _).trans (hb.mono (by simp)))
        refine bodyPost_ret (results_tmp2 rfl _ _ _) rfl ?_
        exact ⟨r2 E.out, hB⟩
      · by_cases k3 : t < 0
        · have E : Hid (met c v r e n k t = (0, 2)) := Lib.hid (by unfold met; rw [if_neg (by simp [hC]), if_pos (by omega)])
          clear hC oc
          go_enter Try.func14, Try.ntmps14
          go_wp2_with (go_at_call 10; refine (rcheck_walk c v r e n _ h1 h2 h3 h4).mono ?_; rw [HC.out]; rintro e' w1 ⟨rfl, hb⟩; have c0 := (hb.cell (p := ⟨w.heap.size, 0, none⟩) (by simp)).trans (by go_simp : _ = some (.float .f64 c)); have c3 := (hb.cell (p := ⟨w.heap.size, 3, none⟩) (by simp)).trans (by go_simp : _ = some (.int .i64 e)); have hB : Below w.heap.size w w1 := ((Below.refl _ _).alloc (Nat.le_refl _) _).trans (hb.mono (by simp)))
          refine bodyPost_ret (results_tmp2 rfl _ _ _) rfl ?_
          exact ⟨r2 E.out, hB⟩
        · have he0 : ¬ e = 0 := by omega
          have he1 : ¬ e = -1 := by omega
          have hd0 : 0 ≤ 1125899906842624 / e := Int.ediv_nonneg (by omega) (by omega)
          have hd1 : 1125899906842624 / e ≤ 1125899906842624 := Int.ediv_le_self _ (by omega)
          have hd2 : 1125899906842624 / e * e ≤ 1125899906842624 := Int.ediv_mul_le _ (by omega)
          have hw : IntKind.i64.wrap (1125899906842624 / e) = 1125899906842624 / e := by rw [IntKind.wrap_i64]; omega
          by_cases hF : 1125899906842624 ≤ t * e + k
          · have E : Hid (met c v r e n k t = (0, 3)) := Lib.hid (by unfold met; rw [if_neg (by simp [hC]), if_neg (by omega), if_pos hF])
            by_cases hlt : 1125899906842624 / e < t
            · clear hC oc
              go_enter Try.func14, Try.ntmps14
              go_wp2_with (go_at_call 10; refine (rcheck_walk c v r e n _ h1 h2 h3 h4).mono ?_; rw [HC.out]; rintro e' w1 ⟨rfl, hb⟩; have c0 := (hb.cell (p := ⟨w.heap.size, 0, none⟩) (by simp)).trans (by go_simp : _ = some (.float .f64 c)); have c3 := (hb.cell (p := ⟨w.heap.size, 3, none⟩) (by simp)).trans (by go_simp : _ = some (.int .i64 e)); have hB : Below w.heap.size w w1 := ((Below.refl _ _).alloc (Nat.le_refl _) _).trans (hb.mono (by simp)))
              refine bodyPost_ret (results_tmp2 rfl _ _ _) rfl ?_
              exact ⟨r2 E.out, hB⟩
            · have hte : t * e ≤ 1125899906842624 / e * e := Int.mul_le_mul_of_nonneg_right (by omega) (by omega)
              have hp0 : 0 ≤ t * e := Int.mul_nonneg (by omega) (by omega)
              have hw2 : wrap64 (t * e) = t * e := by unfold wrap64; omega
              have hw3 : wrap64 (t * e + k) = t * e + k := by unfold wrap64; omega
              clear hC oc
              go_enter Try.func14, Try.ntmps14
              go_wp2_with (go_at_call 10; refine (rcheck_walk c v r e n _ h1 h2 h3 h4).mono ?_; rw [HC.out]; rintro e' w1 ⟨rfl, hb⟩; have c0 := (hb.cell (p := ⟨w.heap.size, 0, none⟩) (by simp)).trans (by go_simp : _ = some (.float .f64 c)); have c3 := (hb.cell (p := ⟨w.heap.size, 3, none⟩) (by simp)).trans (by go_simp : _ = some (.int .i64 e)); have hB : Below w.heap.size w w1 := ((Below.refl _ _).alloc (Nat.le_refl _) _).trans (hb.mono (by simp)))
              refine bodyPost_ret (results_tmp2 rfl _ _ _) rfl ?_
              exact ⟨r2 E.out, hB⟩
          · have hlt : ¬ 1125899906842624 / e < t := by
              have := (Int.le_ediv_iff_mul_le (c := e) (a := t) (b := 1125899906842624) (by omega)).2 (by omega)
              omega
            have hp0 : 0 ≤ t * e := Int.mul_nonneg (by omega) (by omega)
            have hw2 : wrap64 (t * e) = t * e := by unfold wrap64; omega
            have hw3 : wrap64 (t * e + k) = t * e + k := by unfold wrap64; omega
            have E : Hid (met c v r e n k t = (if Lk.Fin (mtr c (t * e + k)) then mtr c (t * e + k) else 0, if Lk.Fin (mtr c (t * e + k)) then 0 else 6)) := Lib.hid (by unfold met; rw [if_neg (by simp [hC]), if_neg (by omega), if_neg hF])
            have N1 := Lib.hid (half_nn (N := t * e + k) (by omega))
            have N2 : Hid (¬ Nan (fmul (fadd (floatOfInt .f64 (t * e + k)) 4602678819172646912) c)) := Lib.hid (mtr_nn (c := c) (N := t * e + k) (by omega) (by omega) oc)
            clear hC oc
            by_cases hfin : Lk.Fin (fmul (fadd (floatOfInt .f64 (t * e + k)) 4602678819172646912) c)
            · have E2 : Hid (met c v r e n k t = (mtr c (t * e + k), 0)) := Lib.hid (by rw [E.out]; unfold mtr; rw [if_pos hfin, if_pos hfin])
              have hfin2 : Lk.Fin (fop BinOp.mul (fop BinOp.add (floatOfInt .f64 (t * e + k)) 4602678819172646912) c) := hfin
              go_enter Try.func14, Try.ntmps14
              go_wp2_with (first | (go_at_call 10; refine (rcheck_walk c v r e n _ h1 h2 h3 h4).mono ?_; rw [HC.out]; rintro e' w1 ⟨rfl, hb⟩; have c0 := (hb.cell (p := ⟨w.heap.size, 0, none⟩) (by simp)).trans (by go_simp : _ = some (.float .f64 c)); have c3 := (hb.cell (p := ⟨w.heap.size, 3, none⟩) (by simp)).trans (by go_simp : _ = some (.int .i64 e)); have hB : Below w.heap.size w w1 := ((Below.refl _ _).alloc (Nat.le_refl _) _).trans (hb.mono (by simp))) | (((with_reducible refine wpList_float (x := ?_) (y := ?_) (X := ?_) (Y := ?_) rfl rfl ?_ ?_ ?_ ?_ ?_ ?_); (· rfl); (rotate_left 4); (· rfl); (· rfl); (· first | assumption | exact Is.refl _); (· first | assumption | exact Is.refl _); intro v n hv hl); first | (have e9 := hv.eq N1.out; subst e9) | (have e9 := hv.eq N2.out; subst e9)) | (go_at_call 29; refine (isfin_walk _ _).mono ?_; rintro e' w2 ⟨rfl, rfl⟩))
              refine bodyPost_ret (results_tmp2 rfl _ _ _) rfl ?_
              exact ⟨r2 E2.out, Below.drew hB⟩
            · have E2 : Hid (met c v r e n k t = (0, 6)) := Lib.hid (by rw [E.out]; unfold mtr; rw [if_neg hfin, if_neg hfin])
              have hfin2 : ¬ Lk.Fin (fop BinOp.mul (fop BinOp.add (floatOfInt .f64 (t * e + k)) 4602678819172646912) c) := hfin
              go_enter Try.func14, Try.ntmps14
              go_wp2_with (first | (go_at_call 10; refine (rcheck_walk c v r e n _ h1 h2 h3 h4).mono ?_; rw [HC.out]; rintro e' w1 ⟨rfl, hb⟩; have c0 := (hb.cell (p := ⟨w.heap.size, 0, none⟩) (by simp)).trans (by go_simp : _ = some (.float .f64 c)); have c3 := (hb.cell (p := ⟨w.heap.size, 3, none⟩) (by simp)).trans (by go_simp : _ = some (.int .i64 e)); have hB : Below w.heap.size w w1 := ((Below.refl _ _).alloc (Nat.le_refl _) _).trans (hb.mono (by simp))) | (((with_reducible refine wpList_float (x := ?_) (y := ?_) (X := ?_) (Y := ?_) rfl rfl ?_ ?_ ?_ ?_ ?_ ?_); (· rfl); (rotate_left 4); (· rfl); (· rfl); (· first | assumption | exact Is.refl _); (· first | assumption | exact Is.refl _); intro v n hv hl); first | (have e9 := hv.eq N1.out; subst e9) | (have e9 := hv.eq N2.out; subst e9)) | (go_at_call 29; refine (isfin_walk _ _).mono ?_; rintro e' w2 ⟨rfl, rfl⟩))
              refine bodyPost_ret (results_tmp2 rfl _ _ _) rfl ?_
              exact ⟨r2 E2.out, Below.drew hB⟩
  · have E : Hid (met c v r e n k t = (0, chk c v r e n)) := Lib.hid (by unfold met; rw [if_pos hC])
    go_enter Try.func14, Try.ntmps14
    go_wp2_with (go_at_call 10; refine (rcheck_walk c v r e n _ h1 h2 h3 h4).mono ?_; rintro e' w1 ⟨rfl, hb⟩; have hB : Below w.heap.size w w1 := ((Below.refl _ _).alloc (Nat.le_refl _) _).trans (hb.mono (by simp)))
    refine bodyPost_ret (results_tmp2 rfl _ _ _) rfl ?_
    exact ⟨r2 E.out, hB⟩
end Go.Proofs.Ytakkdkgbkedliaa
