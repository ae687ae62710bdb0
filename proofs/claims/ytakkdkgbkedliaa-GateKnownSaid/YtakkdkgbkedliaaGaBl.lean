import Derived.Test.YtakkdkgbkedliaaGaG
set_option autoImplicit false
set_option linter.unusedVariables false
namespace Go.Proofs.Ytakkdkgbkedliaa
open Go.RowKit Go.ChangeShapes Go.WideShapes Go.ChangeAt Lk
def blM (c : Nat) (e : Int) : Nat := fmul (floatOfInt .f64 e) c
def blS (v r : Nat) (e : Int) : Nat := fdiv v (fmul 4611686018427387904 (sec e r))
def bld (c v r : Nat) (e n : Int) : Nat × Nat × Int :=
  if chk c v r e n = 0 then (if Lk.Fin (blM c e) ∧ Lk.Fin (blS v r e) then (blM c e, blS v r e, 0) else (0, 0, 6)) else (0, 0, chk c v r e n)
def R3f (x : Nat × Nat × Int) (w : World) (e' : Ending) (w' : World) : Prop := e' = .returned (.tuple #[.float .f64 x.1, .float .f64 x.2.1, .int .i64 x.2.2]) ∧ Below w.heap.size w w'
theorem r3f {x y : Nat × Nat × Int} (h : x = y) : Ending.returned (.tuple #[.float .f64 y.1, .float .f64 y.2.1, .int .i64 y.2.2]) = .returned (.tuple #[.float .f64 x.1, .float .f64 x.2.1, .int .i64 x.2.2]) := by rw [h]
theorem blM_nn {c : Nat} {e : Int} (h1 : 1 ≤ e) (h2 : e ≤ 16384) (hc : okf c = true) : ¬ Nan (blM c e) := (fmul_fin (V.ofInt (n := e) (by omega)).1.1 (okf_pos hc).1).2.1
theorem ret_three {a b c d : Nat} {i j : Int} (h : a = b ∧ c = d) (k : i = j) : Ending.returned (.tuple #[.float .f64 a, .float .f64 c, .int .i64 i]) = .returned (.tuple #[.float .f64 b, .float .f64 d, .int .i64 j]) := by rw [h.1, h.2, k]
theorem bl_is {m M s S : Nat} (h : Is m M) (k : Is s S) (f1 : Lk.Fin m) (f2 : Lk.Fin s) : (if Lk.Fin M ∧ Lk.Fin S then (M, S, (0 : Int)) else (0, 0, 6)) = (m, s, 0) := by
  have g1 := (is_fin h).1 f1
  have g2 := (is_fin k).1 f2
  rw [if_pos ⟨g1, g2⟩, h.eq g1.not_nan, k.eq g2.not_nan]
theorem bl_no {m M s S : Nat} (h : Is m M) (k : Is s S) (f : ¬ (Lk.Fin m ∧ Lk.Fin s)) : (if Lk.Fin M ∧ Lk.Fin S then (M, S, (0 : Int)) else (0, 0, 6)) = (0, 0, 6) := by
  rw [if_neg (fun ⟨a, b⟩ => f ⟨(is_fin h).2 a, (is_fin k).2 b⟩)]
set_option maxHeartbeats 4000000 in
theorem blind_walk (c u0 r : Nat) (e m0 : Int) (w : World) (h1 : -9223372036854775808 ≤ e) (h2 : e ≤ 9223372036854775807) (h3 : -9223372036854775808 ≤ m0) (h4 : m0 ≤ 9223372036854775807) :
    Calls Try.prog 24 #[btv c u0 r e m0] w (R3f (bld c u0 r e m0) w) := by
  by_cases hC : chk c u0 r e m0 = 0
  · obtain ⟨oc, ov, or', e1, e2, _⟩ := chk_zero hC
    have HC := Lib.hid hC
    have HR := Lib.hid or'
    have E : Hid (bld c u0 r e m0 = if Lk.Fin (blM c e) ∧ Lk.Fin (blS u0 r e) then (blM c e, blS u0 r e, 0) else (0, 0, 6)) := Lib.hid (by unfold bld; rw [if_pos hC])
    have N1 := Lib.hid (blM_nn e1 e2 oc)
    clear hC oc ov or'
    go_enter Try.func24, Try.ntmps24
    go_wp2_with fail
    refine (check_walk c u0 r e m0 _ h1 h2 h3 h4).mono ?_; rw [HC.out]; rintro e' w1 ⟨rfl, hb⟩
    have A := (AtB.mk (c := c) (v := u0) (r := r) (e := e) (n := m0) (B := w.heap.size) (by go_simp) (by go_simp) (by go_simp) (by go_simp) (by go_simp)).keep (by simp) hb
    have hz : w.heap.size < w1.heap.size := by have := hb.size; simp at this; omega
    have hB : Below w.heap.size w w1 := ((Below.refl _ _).alloc (Nat.le_refl _) _).trans (hb.mono (by simp))
    clear hb
    obtain ⟨c0, c1, c2, c3, c4⟩ := A
    go_wp2_with fail
    refine wp_region_G (TG e r 0) (by kernel_rfl) (by kernel_rfl) ?_
    repeat' (refine wpG_step' (fun K hA hK => ?_); go_simp; first | (refine bothG_value hA (v := ?_) (fun w' hw' => ?_) ?_; rotate_left; (· go_simp; rfl); (refine hK _ _ ?_; clear hK hA K)) | (refine bothG_call (f := 34) (args := ?_) (fun w' => ?_) (fun w' _ => ?_) ?_; rotate_left; (· go_simp; rfl); (· exact tg_a e1 e2 HR.out _); (intro u y hu; obtain rfl := hu.a rfl; clear hu; refine hK _ _ ?_; clear hK hA K)) | (refine bothG_float hA (x := ?_) (y := ?_) (X := ?_) (Y := ?_) rfl ?_ ?_ ?_ ?_ ?_ ?_; rotate_left 4; (· rfl); (· rfl); (· rfl); (· first | assumption | exact Is.refl _); (· first | assumption | exact Is.refl _); intro v hv hl; refine hK _ _ ?_; clear hK hA K))
    refine wpG_nil ?_
    intro w2 hb2 hF
    clear hF
    rename_i M hM _ _ _ _
    have hS := hv
    generalize v = S at *
    clear hv
    have hB2 : Below w.heap.size w w2 := hB.trans (hb2.mono hB.size)
    clear hb2 hB
    by_cases f1 : Lk.Fin M
    · by_cases f2 : Lk.Fin S
      · go_wp2_with fail
        refine (fine_walk _ _).mono ?_; rintro e' w3 ⟨rfl, hb⟩
        have hB3 : Below w.heap.size w w3 := hB2.trans (hb.mono hB2.size)
        go_wp2_with fail
        refine (fine_walk _ _).mono ?_; rintro e' w4 ⟨rfl, hb⟩
        have hB4 : Below w.heap.size w w4 := hB3.trans (hb.mono hB3.size)
        go_wp2_with fail
        refine bodyPost_ret (results_tmp3 rfl _ _ _) rfl ?_
        exact ⟨(r3f (bl_is hM hS f1 f2)).trans (r3f E.out), hB4⟩
      · go_wp2_with fail
        refine (fine_walk _ _).mono ?_; rintro e' w3 ⟨rfl, hb⟩
        have hB3 : Below w.heap.size w w3 := hB2.trans (hb.mono hB2.size)
        go_wp2_with fail
        refine (fine_walk _ _).mono ?_; rintro e' w4 ⟨rfl, hb⟩
        have hB4 : Below w.heap.size w w4 := hB3.trans (hb.mono hB3.size)
        go_wp2_with fail
        refine bodyPost_ret (results_tmp3 rfl _ _ _) rfl ?_
        exact ⟨(r3f (bl_no hM hS (fun h => f2 h.2))).trans (r3f E.out), hB4⟩
    · go_wp2_with fail
      refine (fine_walk _ _).mono ?_; rintro e' w3 ⟨rfl, hb⟩
      have hB3 : Below w.heap.size w w3 := hB2.trans (hb.mono hB2.size)
      go_wp2_with fail
      refine bodyPost_ret (results_tmp3 rfl _ _ _) rfl ?_
      exact ⟨(r3f (bl_no hM hS (fun h => f1 h.1))).trans (r3f E.out), hB3⟩
  · have E : Hid (bld c u0 r e m0 = (0, 0, chk c u0 r e m0)) := Lib.hid (by unfold bld; rw [if_neg hC])
    have HC := Lib.hid hC
    go_enter Try.func24, Try.ntmps24
    go_wp2_with fail
    refine (check_walk c u0 r e m0 _ h1 h2 h3 h4).mono ?_; rintro e' w1 ⟨rfl, hb⟩
    have hB : Below w.heap.size w w1 := ((Below.refl _ _).alloc (Nat.le_refl _) _).trans (hb.mono (by simp))
    go_wp2_with fail
    refine bodyPost_ret (results_tmp3 rfl _ _ _) rfl ?_
    exact ⟨r3f E.out, hB⟩
set_option maxHeartbeats 4000000 in
theorem rblind_walk (c u0 r : Nat) (e m0 : Int) (w : World) (h1 : -9223372036854775808 ≤ e) (h2 : e ≤ 9223372036854775807) (h3 : -9223372036854775808 ≤ m0) (h4 : m0 ≤ 9223372036854775807) :
    Calls Try.prog 25 #[btv c u0 r e m0] w (R3f (bld c u0 r e m0) w) := by
  by_cases hC : chk c u0 r e m0 = 0
  · obtain ⟨oc, ov, or', e1, e2, _⟩ := chk_zero hC
    have HC := Lib.hid hC
    have HR := Lib.hid or'
    have E : Hid (bld c u0 r e m0 = if Lk.Fin (blM c e) ∧ Lk.Fin (blS u0 r e) then (blM c e, blS u0 r e, 0) else (0, 0, 6)) := Lib.hid (by unfold bld; rw [if_pos hC])
    clear hC oc ov or'
    go_enter Try.func25, Try.ntmps25
    go_wp2_with fail
    refine (rcheck_walk c u0 r e m0 _ h1 h2 h3 h4).mono ?_; rw [HC.out]; rintro e' w1 ⟨rfl, b⟩
    have A := (AtB.mk (c := c) (v := u0) (r := r) (e := e) (n := m0) (B := w.heap.size) (by go_simp) (by go_simp) (by go_simp) (by go_simp) (by go_simp)).keep (by simp) b
    have hz : w.heap.size < w1.heap.size := by have := b.size; simp at this; omega
    have hB : Below w.heap.size w w1 := ((Below.refl _ _).alloc (Nat.le_refl _) _).trans (b.mono (by simp))
    clear b
    obtain ⟨c0, c1, c2, c3, c4⟩ := A
    go_wp2_with (((with_reducible refine wpList_float (x := ?_) (y := ?_) (X := ?_) (Y := ?_) rfl rfl ?_ ?_ ?_ ?_ ?_ ?_); (· rfl); (rotate_left 4); (· rfl); (· rfl); (· first | assumption | exact Is.refl _); (· first | assumption | exact Is.refl _); intro v n hv hl))
    have hM := hv
    have hMl := hl
    clear hv hl
    generalize v = M at *
    refine (rseconds_walk c u0 r e m0 _ e1 e2 HR.out).mono ?_; rintro e' w2 ⟨rfl, b⟩
    have A := (AtB.mk (W := w1.drewN n) c0 c1 c2 c3 c4).keep hz b
    have hB2 : Below w.heap.size w w2 := (Below.drew hB).trans (b.mono hB.size)
    have hz2 : w.heap.size < w2.heap.size := Nat.lt_of_lt_of_le hz b.size
    clear c0 c1 c2 c3 c4 b hB hz
    obtain ⟨c0, c1, c2, c3, c4⟩ := A
    go_wp2_with ((with_reducible refine wpList_float (x := ?_) (y := ?_) (X := ?_) (Y := ?_) rfl rfl ?_ ?_ ?_ ?_ ?_ ?_); (· rfl); (rotate_left 4); (· rfl); (· rfl); (· first | assumption | exact Is.refl _); (· first | assumption | exact Is.refl _); intro v n hv hl)
    have hS := hv
    generalize v = S at *
    clear hv
    by_cases f1 : Lk.Fin M
    · by_cases f2 : Lk.Fin S
      · refine (isfin_walk _ _).mono ?_; rintro e' w3 ⟨rfl, rfl⟩
        go_wp2_with fail
        refine (isfin_walk _ _).mono ?_; rintro e' w4 ⟨rfl, rfl⟩
        go_wp2_with fail
        refine bodyPost_ret (results_tmp3 rfl _ _ _) rfl ?_
        exact ⟨(r3f (bl_is hM hS f1 f2)).trans (r3f E.out), Below.drew hB2⟩
      · refine (isfin_walk _ _).mono ?_; rintro e' w3 ⟨rfl, rfl⟩
        go_wp2_with fail
        refine (isfin_walk _ _).mono ?_; rintro e' w4 ⟨rfl, rfl⟩
        go_wp2_with fail
        refine bodyPost_ret (results_tmp3 rfl _ _ _) rfl ?_
        exact ⟨(r3f (bl_no hM hS (fun h => f2 h.2))).trans (r3f E.out), Below.drew hB2⟩
    · refine (isfin_walk _ _).mono ?_; rintro e' w3 ⟨rfl, rfl⟩
      go_wp2_with fail
      refine bodyPost_ret (results_tmp3 rfl _ _ _) rfl ?_
      exact ⟨(r3f (bl_no hM hS (fun h => f1 h.1))).trans (r3f E.out), Below.drew hB2⟩
  · have E : Hid (bld c u0 r e m0 = (0, 0, chk c u0 r e m0)) := Lib.hid (by unfold bld; rw [if_neg hC])
    have HC := Lib.hid hC
    go_enter Try.func25, Try.ntmps25
    go_wp2_with fail
    refine (rcheck_walk c u0 r e m0 _ h1 h2 h3 h4).mono ?_; rintro e' w1 ⟨rfl, hb⟩
    have hB : Below w.heap.size w w1 := ((Below.refl _ _).alloc (Nat.le_refl _) _).trans (hb.mono (by simp))
    go_wp2_with fail
    refine bodyPost_ret (results_tmp3 rfl _ _ _) rfl ?_
    exact ⟨r3f E.out, hB⟩
end Go.Proofs.Ytakkdkgbkedliaa
