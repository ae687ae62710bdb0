import Derived.Test.YtakkdkgbkedliaaGaB
set_option autoImplicit false
set_option linter.unusedVariables false
namespace Go.Proofs.Ytakkdkgbkedliaa
open Go.RowKit Lk
set_option maxHeartbeats 4000000 in
theorem rbin_walk (c u0 r : Nat) (e m0 : Int) (x : Nat) (w : World) (h1 : -9223372036854775808 ≤ e) (h2 : e ≤ 9223372036854775807) (h3 : -9223372036854775808 ≤ m0) (h4 : m0 ≤ 9223372036854775807) :
    Calls Try.prog 22 #[btv c u0 r e m0, .float .f64 x] w (R2 (bin c u0 r e m0 x) w) := by
  by_cases hA : ask c u0 r e m0 x = 0
  · obtain ⟨hC, hF⟩ := ask_zero hA
    obtain ⟨oc, ov, or', e1, e2, n1, n2⟩ := chk_zero hC
    have HC := Lib.hid hC
    have HR := Lib.hid or'
    have HA := Lib.hid hA
    clear hC oc ov or' hA
    go_enter Try.func22, Try.ntmps22
    go_wp2_with (first | (go_at_call 10; refine (rcheck_walk c u0 r e m0 _ h1 h2 h3 h4).mono ?_; rw [HC.out]; rintro e' w1 ⟨rfl, hb⟩; have c0 := (hb.cell (p := ⟨w.heap.size, 0, none⟩) (by simp)).trans (by go_simp : _ = some (.float .f64 c)); have c1 := (hb.cell (p := ⟨w.heap.size, 1, none⟩) (by simp)).trans (by go_simp : _ = some (.float .f64 u0)); have c2 := (hb.cell (p := ⟨w.heap.size, 2, none⟩) (by simp)).trans (by go_simp : _ = some (.float .f64 r)); have c3 := (hb.cell (p := ⟨w.heap.size, 3, none⟩) (by simp)).trans (by go_simp : _ = some (.int .i64 e)); have c4 := (hb.cell (p := ⟨w.heap.size, 4, none⟩) (by simp)).trans (by go_simp : _ = some (.int .i64 m0)); have hz1 := hb.size; have hz0 : w.heap.size < w1.heap.size := (by simp at hz1; omega); have hB : Below w.heap.size w w1 := ((Below.refl _ _).alloc (Nat.le_refl _) _).trans (hb.mono (by simp)); clear hb) | (go_at_call 29; refine (isfin_walk _ _).mono ?_; rintro e' w2 ⟨rfl, rfl⟩) | ((with_reducible refine wpList_float (x := ?_) (y := ?_) (X := ?_) (Y := ?_) rfl rfl ?_ ?_ ?_ ?_ ?_ ?_); (· rfl); (rotate_left 4); (· rfl); (· rfl); (· first | assumption | exact Is.refl _); (· first | assumption | exact Is.refl _); intro v n hv hl))
    refine (rseconds_walk c _ r e _ _ e1 e2 HR.out).mono ?_; rintro e' w2 ⟨rfl, hb2⟩
    have hB2 := (Below.drew hB).trans (hb2.mono hB.size)
    have d4 := (hb2.cell (p := ⟨w.heap.size, 4, none⟩) hz0).trans c4
    have hz3 : w.heap.size < w2.heap.size := Nat.lt_of_lt_of_le hz0 hb2.size
    clear hb2
    go_wp2_with (first | (go_at_call 29; refine (isfin_walk _ _).mono ?_; rintro e' w3 ⟨rfl, rfl⟩) | ((with_reducible refine wpList_float (x := ?_) (y := ?_) (X := ?_) (Y := ?_) rfl rfl ?_ ?_ ?_ ?_ ?_ ?_); (· rfl); (rotate_left 4); (· rfl); (· rfl); (· first | assumption | exact Is.refl _); (· first | assumption | exact Is.refl _); intro v n hv hl))
    · rename_i hh
      have hnf : ¬ Lk.Fin v := by simpa using hh
      have hT : ¬ Lk.Fin (biT u0 r e x) := fun h => hnf ((is_fin hv).2 h)
      have E : bin c u0 r e m0 x = (0, 6) := by unfold bin; rw [if_pos HA.out, if_neg hT]
      refine bodyPost_ret (results_tmp2 rfl _ _ _) rfl ?_
      exact ⟨r2 E, Below.drew hB2⟩
    · have hnf : Lk.Fin v := by have hh := ‹(!decide (Lk.Fin v)) = false›; simpa using hh
      have hT : Lk.Fin (biT u0 r e x) := (is_fin hv).1 hnf
      have E : Hid (bin c u0 r e m0 x = (biF u0 r e m0 x, 0)) := Lib.hid (by unfold bin; rw [if_pos HA.out, if_pos hT])
      have HN := Lib.hid (biF_nn (n := m0) hT n1 n2)
      have KF : Hid (∀ y, Is y (fop BinOp.mul (wrp (fneg (biT u0 r e x))) (floatOfInt .f64 m0)) → y = biF u0 r e m0 x) := Lib.hid (fun y hy => hy.eq HN.out)
      have HT := Lib.hid hT
      have hv9 : v = biT u0 r e x := hv.eq hT.not_nan
      have NG : Op.negFloat .f64 (biT u0 r e x) = fneg (biT u0 r e x) := by have h := neg_fneg v hl; rw [hv9] at h; exact h
      clear hT hnf
      generalize hw4 : w2.drewN _ = w4
      have d5 : w4.cell? ⟨w.heap.size, 4, none⟩ = some (.int .i64 m0) := by rw [← hw4]; exact d4
      have hz4 : w.heap.size < w4.heap.size := by rw [← hw4]; exact hz3
      have hB4 : Below w.heap.size w w4 := by rw [← hw4]; exact Below.drew hB2
      clear hw4
      refine wp_region_G (TG e r (fneg (biT u0 r e x))) (by kernel_rfl) (by kernel_rfl) ?_
      repeat' (refine wpG_step' (fun K hA hK => ?_); go_simp; first | (refine bothG_value hA (v := ?_) (fun w' hw' => ?_) ?_; rotate_left; (· go_simp; rfl); (refine hK _ _ ?_; clear hK hA K)) | (refine bothG_call (f := 39) (args := ?_) (fun w' => ?_) (fun w' _ => ?_) ?_; rotate_left; (· go_simp; rfl); (· first | exact tg_d (fin_fneg.2 HT.out) (fneg_lt HT.out) _ | (rw [NG]; exact tg_d (fin_fneg.2 HT.out) (fneg_lt HT.out) _)); (intro u y hu; obtain rfl := hu.d rfl; clear hu; refine hK _ _ ?_; clear hK hA K)) | (refine bothG_float hA (x := ?_) (y := ?_) (X := ?_) (Y := ?_) rfl ?_ ?_ ?_ ?_ ?_ ?_; rotate_left 4; (· rfl); (· rfl); (· rfl); (· first | assumption | exact Is.refl _); (· first | assumption | exact Is.refl _); intro v hv hl; refine hK _ _ ?_; clear hK hA K))
      refine wpG_nil ?_
      intro w3 hb3 hF
      clear hF
      go_wp2_with fail
      have e9 := KF.out _ hv
      refine bodyPost_ret (results_tmp2 rfl _ _ _) rfl ?_
      exact ⟨(ret_two ⟨e9, rfl⟩).trans (r2 E.out), hB4.trans (hb3.mono hB4.size)⟩
  · have E : Hid (bin c u0 r e m0 x = (0, ask c u0 r e m0 x)) := Lib.hid (by unfold bin; rw [if_neg hA])
    rcases ask_no hA with ⟨hC, hF, h6⟩ | ⟨hC, h6⟩
    · have HC := Lib.hid hC
      clear hA hC
      go_enter Try.func22, Try.ntmps22
      go_wp2_with (first | (go_at_call 10; refine (rcheck_walk c u0 r e m0 _ h1 h2 h3 h4).mono ?_; rw [HC.out]; rintro e' w1 ⟨rfl, hb⟩; have hB : Below w.heap.size w w1 := ((Below.refl _ _).alloc (Nat.le_refl _) _).trans (hb.mono (by simp))) | (go_at_call 29; refine (isfin_walk _ _).mono ?_; rintro e' w2 ⟨rfl, rfl⟩))
      have E2 : bin c u0 r e m0 x = (0, 6) := E.out.trans (by rw [h6])
      refine bodyPost_ret (results_tmp2 rfl _ _ _) rfl ?_
      exact ⟨r2 E2, hB⟩
    · go_enter Try.func22, Try.ntmps22
      go_wp2_with (go_at_call 10; refine (rcheck_walk c u0 r e m0 _ h1 h2 h3 h4).mono ?_; rintro e' w1 ⟨rfl, hb⟩; have hB : Below w.heap.size w w1 := ((Below.refl _ _).alloc (Nat.le_refl _) _).trans (hb.mono (by simp)))
      have E2 : bin c u0 r e m0 x = (0, chk c u0 r e m0) := E.out.trans (by rw [h6])
      refine bodyPost_ret (results_tmp2 rfl _ _ _) rfl ?_
      exact ⟨r2 E2, hB⟩
end Go.Proofs.Ytakkdkgbkedliaa
