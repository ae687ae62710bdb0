import Derived.Test.YtakkdkgbkedliaaGaR
import Derived.Test.YtakkdkgbkedliaaFlG
set_option autoImplicit false
set_option linter.unusedVariables false
namespace Go.Proofs.Ytakkdkgbkedliaa
open Go.RowKit Lk
def sec (e : Int) (r : Nat) : Nat := fdiv (floatOfInt .f64 e) r
theorem sec_nn {e : Int} {r : Nat} (h1 : 1 ≤ e) (h2 : e ≤ 16384) (hr : okf r = true) : ¬ Nan (sec e r) := by
  obtain ⟨f1, f2⟩ := okf_pos hr
  exact (fdiv_fin (V.ofInt (n := e) (by omega)).1.1 f1 f2).2.1
theorem seconds_walk (c v r : Nat) (e n : Int) (w : World) (h1 : 1 ≤ e) (h2 : e ≤ 16384) (hr : okf r = true) : Calls Try.prog 34 #[btv c v r e n] w (fun e' w' => e' = .returned (.float .f64 (sec e r)) ∧ Below w.heap.size w w') := by
  have HN := Lib.hid (sec_nn h1 h2 hr)
  go_enter Try.func34, Try.ntmps34
  go_wp2_with (((with_reducible refine wpList_float (x := ?_) (y := ?_) (X := ?_) (Y := ?_) rfl rfl ?_ ?_ ?_ ?_ ?_ ?_); (· rfl); (rotate_left 4); (· rfl); (· rfl); (· first | assumption | exact Is.refl _); (· first | assumption | exact Is.refl _); intro v n hv hl); have e9 := hv.eq HN.out; subst e9; clear hv)
  go_ret
  exact ⟨rfl, below_drewN ((Below.refl _ _).alloc (Nat.le_refl _) _) _⟩
theorem rseconds_walk (c v r : Nat) (e n : Int) (w : World) (h1 : 1 ≤ e) (h2 : e ≤ 16384) (hr : okf r = true) : Calls Try.prog 38 #[btv c v r e n] w (fun e' w' => e' = .returned (.float .f64 (sec e r)) ∧ Below w.heap.size w w') := by
  have HN := Lib.hid (sec_nn h1 h2 hr)
  go_enter Try.func38, Try.ntmps38
  go_wp2_with (((with_reducible refine wpList_float (x := ?_) (y := ?_) (X := ?_) (Y := ?_) rfl rfl ?_ ?_ ?_ ?_ ?_ ?_); (· rfl); (rotate_left 4); (· rfl); (· rfl); (· first | assumption | exact Is.refl _); (· first | assumption | exact Is.refl _); intro v n hv hl); have e9 := hv.eq HN.out; subst e9; clear hv)
  go_ret
  exact ⟨rfl, below_drewN ((Below.refl _ _).alloc (Nat.le_refl _) _) _⟩
def tld (y : Nat) : Nat := if Lk.Fin y then y else 0
def tle (y : Nat) : Int := if Lk.Fin y then 0 else 6
/-- what the calls hand back -/
structure TG (e : Int) (r : Nat) (z : Nat) (f : FuncId) (args : Array Value) (u : Value) (w : World) : Prop where
  a : f = 34 → u = .float .f64 (sec e r)
  b : f = 32 → ∀ y, args = #[.float .f64 y] → u = .tuple #[.float .f64 (tld y), .int .i64 (tle y)]
  c : f = 35 → u = .float .f64 (wrp z)
  d : f = 39 → u = .float .f64 (wrp z)
theorem tg_a {c v r z : Nat} {e n : Int} (h1 : 1 ≤ e) (h2 : e ≤ 16384) (hr : okf r = true) (w : World) : Calls Try.prog 34 #[btv c v r e n] w (fun e' w'' => ∃ u, e' = .returned u ∧ TG e r z 34 #[btv c v r e n] u w'' ∧ Ext w w'') :=
  (seconds_walk c v r e n w h1 h2 hr).mono fun e' w' ⟨he, hb⟩ => ⟨_, he, ⟨fun _ => rfl, (fun h => absurd h (by decide)), (fun h => absurd h (by decide)), (fun h => absurd h (by decide))⟩, hb⟩
theorem tg_b {r z y : Nat} {e : Int} (w : World) : Calls Try.prog 32 #[.float .f64 y] w (fun e' w'' => ∃ u, e' = .returned u ∧ TG e r z 32 #[.float .f64 y] u w'' ∧ Ext w w'') :=
  (told_walk y w).mono fun e' w' ⟨he, hb⟩ => ⟨_, he, ⟨(fun h => absurd h (by decide)), fun _ y' h => by simp only [Array.mk.injEq, List.cons.injEq, Value.float.injEq, true_and, and_true] at h; rw [h]; rfl, (fun h => absurd h (by decide)), (fun h => absurd h (by decide))⟩, hb⟩
theorem tg_c {r z : Nat} {e : Int} (h : Lk.Fin z) (hz : z < 2 ^ 64) (w : World) : Calls Try.prog 35 #[.float .f64 z] w (fun e' w'' => ∃ u, e' = .returned u ∧ TG e r z 35 #[.float .f64 z] u w'' ∧ Ext w w'') :=
  (wrap_walk z w h hz).mono fun e' w' ⟨he, hb⟩ => ⟨_, he, ⟨(fun h => absurd h (by decide)), (fun h => absurd h (by decide)), fun _ => rfl, (fun h => absurd h (by decide))⟩, hb⟩
theorem tg_d {r z : Nat} {e : Int} (h : Lk.Fin z) (hz : z < 2 ^ 64) (w : World) : Calls Try.prog 39 #[.float .f64 z] w (fun e' w'' => ∃ u, e' = .returned u ∧ TG e r z 39 #[.float .f64 z] u w'' ∧ Ext w w'') :=
  (rwrap_walk z w h hz).mono fun e' w' ⟨he, hb⟩ => ⟨_, he, ⟨(fun h => absurd h (by decide)), (fun h => absurd h (by decide)), (fun h => absurd h (by decide)), fun _ => rfl⟩, hb⟩
def spF (v r : Nat) (e n : Int) (x : Nat) : Nat := fneg (fdiv (fmul (fdiv x (floatOfInt .f64 n)) v) (fmul 4611686018427387904 (sec e r)))
def spd (c v r : Nat) (e n : Int) (x : Nat) : Nat × Int :=
  if ask c v r e n x = 0 then (tld (spF v r e n x), tle (spF v r e n x)) else (0, ask c v r e n x)
theorem is_fneg {v X : Nat} (h : Is v X) (hl : v < 2 ^ 64) : Is (Op.negFloat .f64 v) (fneg X) := by
  rw [neg_fneg v hl]
  by_cases hn : Nan X
  · exact .inl ⟨nan_fneg.2 (h.nan.2 hn), nan_fneg.2 hn⟩
  · rw [h.eq hn]; exact Is.refl _
theorem told_is {y X : Nat} (h : Is y X) : tld y = tld X ∧ tle y = tle X := by
  unfold tld tle
  by_cases hf : Lk.Fin X
  · have : y = X := h.eq hf.not_nan
    rw [this]; exact ⟨rfl, rfl⟩
  · have : ¬ Lk.Fin y := fun h2 => hf ((is_fin h).1 h2)
    rw [if_neg hf, if_neg this, if_neg hf, if_neg this]; exact ⟨rfl, rfl⟩
theorem ret_two {a b : Nat} {i j : Int} (h : a = b ∧ i = j) : Ending.returned (.tuple #[.float .f64 a, .int .i64 i]) = .returned (.tuple #[.float .f64 b, .int .i64 j]) := by rw [h.1, h.2]
set_option maxHeartbeats 4000000 in
theorem speed_walk (c v r : Nat) (e n : Int) (x : Nat) (w : World) (h1 : -9223372036854775808 ≤ e) (h2 : e ≤ 9223372036854775807) (h3 : -9223372036854775808 ≤ n) (h4 : n ≤ 9223372036854775807) :
    Calls Try.prog 17 #[btv c v r e n, .float .f64 x] w (R2 (spd c v r e n x) w) := by
  by_cases hA : ask c v r e n x = 0
  · obtain ⟨hC, hF⟩ := ask_zero hA
    obtain ⟨oc, ov, or', e1, e2, _⟩ := chk_zero hC
    have HA := Lib.hid hA
    have HR := Lib.hid or'
    have E : Hid (spd c v r e n x = (tld (spF v r e n x), tle (spF v r e n x))) := Lib.hid (by unfold spd; rw [if_pos hA])
    clear hA hC oc ov or'
    go_enter Try.func17, Try.ntmps17
    go_wp2_with (go_at_call 30; refine (asked_walk c v r e n x _ h1 h2 h3 h4).mono ?_; rw [HA.out]; rintro e' w1 ⟨rfl, hb⟩; have c0 := (hb.cell (p := ⟨w.heap.size, 0, none⟩) (by simp)).trans (by go_simp : _ = some (.float .f64 c)); have c1 := (hb.cell (p := ⟨w.heap.size, 1, none⟩) (by simp)).trans (by go_simp : _ = some (.float .f64 v)); have c2 := (hb.cell (p := ⟨w.heap.size, 2, none⟩) (by simp)).trans (by go_simp : _ = some (.float .f64 r)); have c3 := (hb.cell (p := ⟨w.heap.size, 3, none⟩) (by simp)).trans (by go_simp : _ = some (.int .i64 e)); have c4 := (hb.cell (p := ⟨w.heap.size, 4, none⟩) (by simp)).trans (by go_simp : _ = some (.int .i64 n)); have hz1 := hb.size; have hz0 : w.heap.size < w1.heap.size := (by simp at hz1; omega); have hB : Below w.heap.size w w1 := ((Below.refl _ _).alloc (Nat.le_refl _) _).trans (hb.mono (by simp)))
    refine wp_region_G (TG e r 0) (by kernel_rfl) (by kernel_rfl) ?_
    repeat' (refine wpG_step' (fun K hA hK => ?_); go_simp; first | (refine bothG_value hA (v := ?_) (fun w' hw' => ?_) ?_; rotate_left; (· go_simp; rfl); (refine hK _ _ ?_; clear hK hA K)) | (refine bothG_call (f := 34) (args := ?_) (fun w' => ?_) (fun w' _ => ?_) ?_; rotate_left; (· go_simp; rfl); (· exact tg_a e1 e2 HR.out _); (intro u y hu; obtain rfl := hu.a rfl; clear hu; refine hK _ _ ?_; clear hK hA K)) | (refine bothG_call (f := 32) (args := ?_) (fun w' => ?_) (fun w' _ => ?_) ?_; rotate_left; (· go_simp; rfl); (· exact tg_b _); (intro u y hu; obtain rfl := hu.b rfl _ rfl; clear hu; refine hK _ _ ?_; clear hK hA K)) | (refine bothG_float hA (x := ?_) (y := ?_) (X := ?_) (Y := ?_) rfl ?_ ?_ ?_ ?_ ?_ ?_; rotate_left 4; (· rfl); (· rfl); (· rfl); (· first | assumption | exact Is.refl _); (· first | assumption | exact Is.refl _); intro v hv hl; refine hK _ _ ?_; clear hK hA K))
    refine wpG_nil ?_
    intro w2 hb2 hF
    clear hF
    go_wp2_with fail
    refine bodyPost_ret (results_tmp2 rfl _ _ _) rfl ?_
    exact ⟨(ret_two (told_is (is_fneg (by assumption) (by assumption)))).trans (r2 E.out), hB.trans (hb2.mono hB.size)⟩
  · have E : Hid (spd c v r e n x = (0, ask c v r e n x)) := Lib.hid (by unfold spd; rw [if_neg hA])
    go_enter Try.func17, Try.ntmps17
    go_wp2_with (go_at_call 30; refine (asked_walk c v r e n x _ h1 h2 h3 h4).mono ?_; rintro e' w1 ⟨rfl, hb⟩; have hB : Below w.heap.size w w1 := ((Below.refl _ _).alloc (Nat.le_refl _) _).trans (hb.mono (by simp)))
    refine bodyPost_ret (results_tmp2 rfl _ _ _) rfl ?_
    exact ⟨r2 E.out, hB⟩
theorem told_pos {y : Nat} (h : Lk.Fin y) : tld y = y ∧ tle y = 0 := by unfold tld tle; rw [if_pos h, if_pos h]; exact ⟨rfl, rfl⟩
theorem told_neg {y : Nat} (h : ¬ Lk.Fin y) : tld y = 0 ∧ tle y = 6 := by unfold tld tle; rw [if_neg h, if_neg h]; exact ⟨rfl, rfl⟩
theorem ask_no {c v r x : Nat} {e n : Int} (h : ¬ ask c v r e n x = 0) : (chk c v r e n = 0 ∧ ¬ Lk.Fin x ∧ ask c v r e n x = 6) ∨ (¬ chk c v r e n = 0 ∧ ask c v r e n x = chk c v r e n) := by
  unfold ask at h ⊢
  by_cases h1 : chk c v r e n = 0
  · rw [if_pos h1] at h ⊢
    by_cases h2 : Lk.Fin x
    · rw [if_pos h2] at h; exact absurd rfl h
    · rw [if_neg h2]; exact .inl ⟨h1, h2, rfl⟩
  · rw [if_neg h1]; exact .inr ⟨h1, rfl⟩
set_option maxHeartbeats 4000000 in
theorem rspeed_walk (c v r : Nat) (e n : Int) (x : Nat) (w : World) (h1 : -9223372036854775808 ≤ e) (h2 : e ≤ 9223372036854775807) (h3 : -9223372036854775808 ≤ n) (h4 : n ≤ 9223372036854775807) :
    Calls Try.prog 23 #[btv c v r e n, .float .f64 x] w (R2 (spd c v r e n x) w) := by
  by_cases hA : ask c v r e n x = 0
  · obtain ⟨hC, hF⟩ := ask_zero hA
    obtain ⟨oc, ov, or', e1, e2, _⟩ := chk_zero hC
    have HC := Lib.hid hC
    have HR := Lib.hid or'
    have E : Hid (spd c v r e n x = (tld (spF v r e n x), tle (spF v r e n x))) := Lib.hid (by unfold spd; rw [if_pos hA])
    clear hA hC oc ov or'
    go_enter Try.func23, Try.ntmps23
    go_wp2_with (first | (go_at_call 10; refine (rcheck_walk c v r e n _ h1 h2 h3 h4).mono ?_; rw [HC.out]; rintro e' w1 ⟨rfl, hb⟩; have c0 := (hb.cell (p := ⟨w.heap.size, 0, none⟩) (by simp)).trans (by go_simp : _ = some (.float .f64 c)); have c1 := (hb.cell (p := ⟨w.heap.size, 1, none⟩) (by simp)).trans (by go_simp : _ = some (.float .f64 v)); have c2 := (hb.cell (p := ⟨w.heap.size, 2, none⟩) (by simp)).trans (by go_simp : _ = some (.float .f64 r)); have c3 := (hb.cell (p := ⟨w.heap.size, 3, none⟩) (by simp)).trans (by go_simp : _ = some (.int .i64 e)); have c4 := (hb.cell (p := ⟨w.heap.size, 4, none⟩) (by simp)).trans (by go_simp : _ = some (.int .i64 n)); have hz1 := hb.size; have hz0 : w.heap.size < w1.heap.size := (by simp at hz1; omega); have hB : Below w.heap.size w w1 := ((Below.refl _ _).alloc (Nat.le_refl _) _).trans (hb.mono (by simp)); clear hb) | (go_at_call 29; refine (isfin_walk _ _).mono ?_; rintro e' w2 ⟨rfl, rfl⟩) | ((with_reducible refine wpList_float (x := ?_) (y := ?_) (X := ?_) (Y := ?_) rfl rfl ?_ ?_ ?_ ?_ ?_ ?_); (· rfl); (rotate_left 4); (· rfl); (· rfl); (· first | assumption | exact Is.refl _); (· first | assumption | exact Is.refl _); intro v n hv hl))
    refine (rseconds_walk c _ r e _ _ e1 e2 HR.out).mono ?_; rintro e' w2 ⟨rfl, hb2⟩
    have hB2 := (Below.drew hB).trans (hb2.mono hB.size)
    clear hb2
    go_wp2_with (first | (go_at_call 29; refine (isfin_walk _ _).mono ?_; rintro e' w3 ⟨rfl, rfl⟩) | ((with_reducible refine wpList_float (x := ?_) (y := ?_) (X := ?_) (Y := ?_) rfl rfl ?_ ?_ ?_ ?_ ?_ ?_); (· rfl); (rotate_left 4); (· rfl); (· rfl); (· first | assumption | exact Is.refl _); (· first | assumption | exact Is.refl _); intro v n hv hl))
    · rename_i hh
      have hnf : ¬ Lk.Fin (Op.negFloat FloatKind.f64 v) := by simpa using hh
      have hI := told_is (is_fneg hv hl)
      have hT := told_neg hnf
      refine bodyPost_ret (results_tmp2 rfl _ _ _) rfl ?_
      exact ⟨(ret_two ⟨hT.1.symm.trans hI.1, hT.2.symm.trans hI.2⟩).trans (r2 E.out), Below.drew hB2⟩
    · rename_i hh
      have hnf : Lk.Fin (Op.negFloat FloatKind.f64 v) := by simpa using hh
      have hI := told_is (is_fneg hv hl)
      have hT := told_pos hnf
      refine bodyPost_ret (results_tmp2 rfl _ _ _) rfl ?_
      exact ⟨(ret_two ⟨hT.1.symm.trans hI.1, hT.2.symm.trans hI.2⟩).trans (r2 E.out), Below.drew hB2⟩
  · have E : Hid (spd c v r e n x = (0, ask c v r e n x)) := Lib.hid (by unfold spd; rw [if_neg hA])
    rcases ask_no hA with ⟨hC, hF, h6⟩ | ⟨hC, h6⟩
    · have HC := Lib.hid hC
      clear hA hC
      go_enter Try.func23, Try.ntmps23
      go_wp2_with (first | (go_at_call 10; refine (rcheck_walk c v r e n _ h1 h2 h3 h4).mono ?_; rw [HC.out]; rintro e' w1 ⟨rfl, hb⟩; have hB : Below w.heap.size w w1 := ((Below.refl _ _).alloc (Nat.le_refl _) _).trans (hb.mono (by simp))) | (go_at_call 29; refine (isfin_walk _ _).mono ?_; rintro e' w2 ⟨rfl, rfl⟩))
      have E2 : spd c v r e n x = (0, 6) := E.out.trans (by rw [h6])
      refine bodyPost_ret (results_tmp2 rfl _ _ _) rfl ?_
      exact ⟨r2 E2, hB⟩
    · go_enter Try.func23, Try.ntmps23
      go_wp2_with (go_at_call 10; refine (rcheck_walk c v r e n _ h1 h2 h3 h4).mono ?_; rintro e' w1 ⟨rfl, hb⟩; have hB : Below w.heap.size w w1 := ((Below.refl _ _).alloc (Nat.le_refl _) _).trans (hb.mono (by simp)))
      have E2 : spd c v r e n x = (0, chk c v r e n) := E.out.trans (by rw [h6])
      refine bodyPost_ret (results_tmp2 rfl _ _ _) rfl ?_
      exact ⟨r2 E2, hB⟩
end Go.Proofs.Ytakkdkgbkedliaa
