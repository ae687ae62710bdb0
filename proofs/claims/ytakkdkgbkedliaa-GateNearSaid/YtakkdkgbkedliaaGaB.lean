import Derived.Test.YtakkdkgbkedliaaGaS
set_option autoImplicit false
set_option linter.unusedVariables false
namespace Go.Proofs.Ytakkdkgbkedliaa
open Go.RowKit Lk
def biT (v r : Nat) (e : Int) (x : Nat) : Nat := fmul (fdiv (fmul 4611686018427387904 x) v) (sec e r)
def biF (v r : Nat) (e n : Int) (x : Nat) : Nat := fmul (wrp (fneg (biT v r e x))) (floatOfInt .f64 n)
def bin (c v r : Nat) (e n : Int) (x : Nat) : Nat × Int :=
  if ask c v r e n x = 0 then (if Lk.Fin (biT v r e x) then (biF v r e n x, 0) else (0, 6)) else (0, ask c v r e n x)
theorem fneg_lt {x : Nat} (h : Lk.Fin x) : fneg x < 2 ^ 64 := by
  unfold fneg; refine wd_lt _ ?_; unfold Lk.Fin at h; omega
theorem biF_nn {v r : Nat} {e n : Int} {x : Nat} (h : Lk.Fin (biT v r e x)) (hn : 1 ≤ n) (hn2 : n ≤ 256) : ¬ Nan (biF v r e n x) := by
  obtain ⟨_, _, h3, _⟩ := wrap_eq (fin_fneg.2 h) (fneg_lt h)
  obtain ⟨⟨f1, f2⟩, _⟩ := V.ofInt (n := n) (by omega)
  unfold biF
  rcases not_nan h3 with hf | hi
  · exact (fmul_fin hf f1).2.1
  · unfold fmul
    rw [mul_inf_fin hi f1 (by rw [f2]; have : ((0 : Int) : Rat) < (n : Rat) := Rat.intCast_lt_intCast.2 (by omega)
                              have e0 : ((0 : Int) : Rat) = 0 := rfl
                              grind)]
    exact wd_inf_nan _
set_option maxHeartbeats 4000000 in
theorem bin_walk (c u0 r : Nat) (e n : Int) (x : Nat) (w : World) (h1 : -9223372036854775808 ≤ e) (h2 : e ≤ 9223372036854775807) (h3 : -9223372036854775808 ≤ n) (h4 : n ≤ 9223372036854775807) :
    Calls Try.prog 18 #[btv c u0 r e n, .float .f64 x] w (R2 (bin c u0 r e n x) w) := by
  by_cases hA : ask c u0 r e n x = 0
  · obtain ⟨hC, hF⟩ := ask_zero hA
    obtain ⟨oc, ov, or', e1, e2, n1, n2⟩ := chk_zero hC
    have HA := Lib.hid hA
    have HR := Lib.hid or'
    by_cases hT : Lk.Fin (biT u0 r e x)
    · have HT := Lib.hid hT
      have HN := Lib.hid (biF_nn (n := n) hT n1 n2)
      have E : Hid (bin c u0 r e n x = (biF u0 r e n x, 0)) := Lib.hid (by unfold bin; rw [if_pos hA, if_pos hT])
      have key : Hid (∀ y, Is y (fop BinOp.mul (fop BinOp.quo (fop BinOp.mul 4611686018427387904 x) u0) (sec e r)) → y = biT u0 r e x) := Lib.hid (fun y hy => hy.eq hT.not_nan)
      have KF : Hid (∀ y, Is y (fop BinOp.mul (wrp (fneg (biT u0 r e x))) (floatOfInt .f64 n)) → y = biF u0 r e n x) := Lib.hid (fun y hy => hy.eq HN.out)
      go_enter Try.func18, Try.ntmps18
      go_wp2_with (go_at_call 30; refine (asked_walk c u0 r e n x _ h1 h2 h3 h4).mono ?_; rw [HA.out]; rintro e' w1 ⟨rfl, hb⟩; have c0 := (hb.cell (p := ⟨w.heap.size, 0, none⟩) (by simp)).trans (by go_simp : _ = some (.float .f64 c)); have c1 := (hb.cell (p := ⟨w.heap.size, 1, none⟩) (by simp)).trans (by go_simp : _ = some (.float .f64 u0)); have c2 := (hb.cell (p := ⟨w.heap.size, 2, none⟩) (by simp)).trans (by go_simp : _ = some (.float .f64 r)); have c3 := (hb.cell (p := ⟨w.heap.size, 3, none⟩) (by simp)).trans (by go_simp : _ = some (.int .i64 e)); have c4 := (hb.cell (p := ⟨w.heap.size, 4, none⟩) (by simp)).trans (by go_simp : _ = some (.int .i64 n)); have hz1 := hb.size; have hz0 : w.heap.size < w1.heap.size := (by simp at hz1; omega); have hB : Below w.heap.size w w1 := ((Below.refl _ _).alloc (Nat.le_refl _) _).trans (hb.mono (by simp)))
      refine wp_region_G (TG e r (fneg (biT u0 r e x))) (by kernel_rfl) (by kernel_rfl) ?_
      repeat' (refine wpG_step' (fun K hA hK => ?_); go_simp; first | (refine bothG_value hA (v := ?_) (fun w' hw' => ?_) ?_; rotate_left; (· go_simp; rfl); (refine hK _ _ ?_; clear hK hA K)) | (refine bothG_call (f := 34) (args := ?_) (fun w' => ?_) (fun w' _ => ?_) ?_; rotate_left; (· go_simp; rfl); (· exact tg_a e1 e2 HR.out _); (intro u y hu; obtain rfl := hu.a rfl; clear hu; refine hK _ _ ?_; clear hK hA K)) | (refine bothG_call (f := 32) (args := ?_) (fun w' => ?_) (fun w' _ => ?_) ?_; rotate_left; (· go_simp; rfl); (· exact tg_b _); (intro u y hu; obtain rfl := hu.b rfl _ rfl; clear hu; refine hK _ _ ?_; clear hK hA K)) | (refine bothG_float hA (x := ?_) (y := ?_) (X := ?_) (Y := ?_) rfl ?_ ?_ ?_ ?_ ?_ ?_; rotate_left 4; (· rfl); (· rfl); (· rfl); (· first | assumption | exact Is.refl _); (· first | assumption | exact Is.refl _); intro v hv hl; refine hK _ _ ?_; clear hK hA K))
      refine wpG_nil ?_
      intro w2 hb2 hF
      clear hF
      have hv9 := key.out _ hv
      have hl9 : biT u0 r e x < 2 ^ 64 := by rw [← hv9]; exact hl
      have TP := told_pos HT.out
      rw [← hv9] at TP
      have NG : Op.negFloat .f64 (biT u0 r e x) = fneg (biT u0 r e x) := neg_fneg _ hl9
      have q1 := TP.1.trans hv9
      have q2 := TP.2
      rw [q1, q2]
      clear TP q1 q2
      have d4 := (hb2.cell (p := ⟨w.heap.size, 4, none⟩) hz0).trans c4
      have hB2 := hB.trans (hb2.mono hB.size)
      have hz3 : w.heap.size < w2.heap.size := Nat.lt_of_lt_of_le hz0 hb2.size
      go_wp2_with fail
      refine wp_region_G (TG e r (fneg (biT u0 r e x))) (by kernel_rfl) (by kernel_rfl) ?_
      repeat' (refine wpG_step' (fun K hA hK => ?_); go_simp; first | (refine bothG_value hA (v := ?_) (fun w' hw' => ?_) ?_; rotate_left; (· go_simp; rfl); (refine hK _ _ ?_; clear hK hA K)) | (refine bothG_call (f := 35) (args := ?_) (fun w' => ?_) (fun w' _ => ?_) ?_; rotate_left; (· go_simp; rfl); (· first | exact tg_c (fin_fneg.2 HT.out) (fneg_lt HT.out) _ | (rw [NG]; exact tg_c (fin_fneg.2 HT.out) (fneg_lt HT.out) _) | (have NG2 : Op.negFloat .f64 (fop BinOp.mul (fop BinOp.quo (fop BinOp.mul 4611686018427387904 x) u0) (sec e r)) = fneg (biT u0 r e x) := NG; rw [NG2]; exact tg_c (fin_fneg.2 HT.out) (fneg_lt HT.out) _)); (intro u y hu; obtain rfl := hu.c rfl; clear hu; refine hK _ _ ?_; clear hK hA K)) | (refine bothG_float hA (x := ?_) (y := ?_) (X := ?_) (Y := ?_) rfl ?_ ?_ ?_ ?_ ?_ ?_; rotate_left 4; (· rfl); (· rfl); (· rfl); (· first | assumption | exact Is.refl _); (· first | assumption | exact Is.refl _); intro v hv hl; refine hK _ _ ?_; clear hK hA K))
      refine wpG_nil ?_
      intro w3 hb3 hF
      clear hF
      go_wp2_with fail
      have e9 := KF.out _ hv
      refine bodyPost_ret (results_tmp2 rfl _ _ _) rfl ?_
      exact ⟨(ret_two ⟨e9, rfl⟩).trans (r2 E.out), hB2.trans (hb3.mono hB2.size)⟩
    · have HT := Lib.hid hT
      have E : Hid (bin c u0 r e n x = (0, 6)) := Lib.hid (by unfold bin; rw [if_pos hA, if_neg hT])
      go_enter Try.func18, Try.ntmps18
      go_wp2_with (go_at_call 30; refine (asked_walk c u0 r e n x _ h1 h2 h3 h4).mono ?_; rw [HA.out]; rintro e' w1 ⟨rfl, hb⟩; have c0 := (hb.cell (p := ⟨w.heap.size, 0, none⟩) (by simp)).trans (by go_simp : _ = some (.float .f64 c)); have c1 := (hb.cell (p := ⟨w.heap.size, 1, none⟩) (by simp)).trans (by go_simp : _ = some (.float .f64 u0)); have c2 := (hb.cell (p := ⟨w.heap.size, 2, none⟩) (by simp)).trans (by go_simp : _ = some (.float .f64 r)); have c3 := (hb.cell (p := ⟨w.heap.size, 3, none⟩) (by simp)).trans (by go_simp : _ = some (.int .i64 e)); have c4 := (hb.cell (p := ⟨w.heap.size, 4, none⟩) (by simp)).trans (by go_simp : _ = some (.int .i64 n)); have hz1 := hb.size; have hz0 : w.heap.size < w1.heap.size := (by simp at hz1; omega); have hB : Below w.heap.size w w1 := ((Below.refl _ _).alloc (Nat.le_refl _) _).trans (hb.mono (by simp)))
      refine wp_region_G (TG e r (fneg (biT u0 r e x))) (by kernel_rfl) (by kernel_rfl) ?_
      repeat' (refine wpG_step' (fun K hA hK => ?_); go_simp; first | (refine bothG_value hA (v := ?_) (fun w' hw' => ?_) ?_; rotate_left; (· go_simp; rfl); (refine hK _ _ ?_; clear hK hA K)) | (refine bothG_call (f := 34) (args := ?_) (fun w' => ?_) (fun w' _ => ?_) ?_; rotate_left; (· go_simp; rfl); (· exact tg_a e1 e2 HR.out _); (intro u y hu; obtain rfl := hu.a rfl; clear hu; refine hK _ _ ?_; clear hK hA K)) | (refine bothG_call (f := 32) (args := ?_) (fun w' => ?_) (fun w' _ => ?_) ?_; rotate_left; (· go_simp; rfl); (· exact tg_b _); (intro u y hu; obtain rfl := hu.b rfl _ rfl; clear hu; refine hK _ _ ?_; clear hK hA K)) | (refine bothG_float hA (x := ?_) (y := ?_) (X := ?_) (Y := ?_) rfl ?_ ?_ ?_ ?_ ?_ ?_; rotate_left 4; (· rfl); (· rfl); (· rfl); (· first | assumption | exact Is.refl _); (· first | assumption | exact Is.refl _); intro v hv hl; refine hK _ _ ?_; clear hK hA K))
      refine wpG_nil ?_
      intro w2 hb2 hF
      clear hF
      have hI := told_is (show Is _ (biT u0 r e x) from hv)
      have TP := told_neg HT.out
      rw [hI.1, hI.2, TP.1, TP.2]
      go_wp2_with fail
      refine bodyPost_ret (results_tmp2 rfl _ _ _) rfl ?_
      exact ⟨r2 E.out, hB.trans (hb2.mono hB.size)⟩
  · have E : Hid (bin c u0 r e n x = (0, ask c u0 r e n x)) := Lib.hid (by unfold bin; rw [if_neg hA])
    go_enter Try.func18, Try.ntmps18
    go_wp2_with (go_at_call 30; refine (asked_walk c u0 r e n x _ h1 h2 h3 h4).mono ?_; rintro e' w1 ⟨rfl, hb⟩; have hB : Below w.heap.size w w1 := ((Below.refl _ _).alloc (Nat.le_refl _) _).trans (hb.mono (by simp)))
    refine bodyPost_ret (results_tmp2 rfl _ _ _) rfl ?_
    exact ⟨r2 E.out, hB⟩
end Go.Proofs.Ytakkdkgbkedliaa
