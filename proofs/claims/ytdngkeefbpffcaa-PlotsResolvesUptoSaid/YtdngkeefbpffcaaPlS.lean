import Derived.Test.YtdngkeefbpffcaaPlW
set_option autoImplicit false
set_option linter.unusedVariables false
namespace Go.Proofs.Ytdngkeefbpffcaa
open Go.RowKit Lk Pl
theorem fin_and (x : Nat) : (decide (¬ Nan x) && ((FloatKind.f64.format.order x 9218868437227405311 == some Ordering.lt || FloatKind.f64.format.order x 9218868437227405311 == some Ordering.eq) && (FloatKind.f64.format.order x 18442240474082181119 == some Ordering.gt || FloatKind.f64.format.order x 18442240474082181119 == some Ordering.eq))) = decide (Lk.Fin x) := by
  rw [fmt64]
  show (decide (¬ Nan x) && (cle x MAXF && cge x NMAXF)) = _
  rw [Bool.eq_iff_iff, Bool.and_eq_true, Bool.and_eq_true, cle_iff, cge_iff, decide_eq_true_eq, decide_eq_true_eq, fin_iff]
  have h1 : ¬ Nan MAXF := by decide +kernel
  have h2 : ¬ Nan NMAXF := by decide +kernel
  simp only [h1, h2, not_false_eq_true, true_and]
  constructor
  · rintro ⟨a, ⟨_, b⟩, _, c⟩; exact ⟨a, b, c⟩
  · rintro ⟨a, b, c⟩; exact ⟨a, ⟨a, b⟩, a, c⟩
theorem isfin_walk (x : Nat) (w : World) : Calls Try.prog 32 #[.float .f64 x] w (fun e w' => e = .returned (.bool (decide (Lk.Fin x))) ∧ w = w') := by
  have H := Lib.hid (fin_and x)
  have H1 := Lib.hid (eq_self x)
  by_cases h1 : (FloatKind.f64.format.order x x == some Ordering.eq) = true
  · by_cases h2 : (FloatKind.f64.format.order x 9218868437227405311 == some Ordering.lt || FloatKind.f64.format.order x 9218868437227405311 == some Ordering.eq) = true
    · go_enter Try.func32, Try.ntmps32
      go_wp2
      go_ret
      have e1 := H1.out; rw [h1] at e1
      have e2 := H.out; rw [← e1, h2] at e2
      exact ⟨ret_bool (by simpa using e2), rfl⟩
    · rw [Bool.not_eq_true] at h2
      go_enter Try.func32, Try.ntmps32
      go_wp2
      go_ret
      have e1 := H1.out; rw [h1] at e1
      have e2 := H.out; rw [← e1, h2] at e2
      exact ⟨ret_bool (by simpa using e2), rfl⟩
  · rw [Bool.not_eq_true] at h1
    go_enter Try.func32, Try.ntmps32
    go_wp2
    go_ret
    have e1 := H1.out; rw [h1] at e1
    have e2 := H.out; rw [← e1] at e2
    exact ⟨ret_bool (by simpa using e2), rfl⟩

theorem rcheck_walk (c v r : Nat) (e n : Int) (w : World) (h1 : -9223372036854775808 ≤ e) (h2 : e ≤ 9223372036854775807) (h3 : -9223372036854775808 ≤ n) (h4 : n ≤ 9223372036854775807) :
    Calls Try.prog 31 #[btv c v r e n] w (fun e' w' => e' = .returned (.int .i64 (chk c v r e n)) ∧ Below w.heap.size w w') := by
  have B : Hid (∀ k, k < 3 → okf (nth3 c v r k) = false → chk c v r e n = 80) := Lib.hid (fun k => chk_bad)
  have G : Hid ((∀ j, j < 3 → okf (nth3 c v r j) = true) → chk c v r e n = chkN e n) := Lib.hid chk_good
  go_enter Try.func31, Try.ntmps31
  go_wp2_with fail
  go_loopw [4] (fun i wr => ∃ k : Nat, k ≤ 3 ∧ i = .int .i64 k ∧ (∀ j, j < k → okf (nth3 c v r j) = true) ∧ wr.cell? ⟨w.heap.size, 3, none⟩ = some (.int .i64 e) ∧ wr.cell? ⟨w.heap.size, 4, none⟩ = some (.int .i64 n) ∧ (wr.cell? ⟨w.heap.size + 1, 0, none⟩ = some (.float .f64 c) ∧ wr.cell? ⟨w.heap.size + 1, 1, none⟩ = some (.float .f64 v) ∧ wr.cell? ⟨w.heap.size + 1, 2, none⟩ = some (.float .f64 r)) ∧ Below w.heap.size w wr ∧ w.heap.size + 1 < wr.heap.size) (fun i _ => 3 - (intOf i).toNat)
  case atStart => exact ⟨0, by omega, rfl, fun j hj => absurd hj (Nat.not_lt_zero _), by go_simp, by go_simp, ⟨by go_simp, by go_simp, by go_simp⟩, (by (repeat' (first | assumption | exact Below.refl _ _ | refine below_drewN ?_ _ | refine Below.drew ?_ | refine Below.setCell ?_ (by first | exact Nat.le_refl _ | (simp; done) | (simp; omega)) _ | refine Below.alloc ?_ (by first | exact Nat.le_refl _ | (simp; done) | (simp; omega)) _))), by simp⟩
  case round =>
    obtain ⟨k, hk, rfl, hok, c3, c4, ⟨f0, f1, f2⟩, hbw, hz⟩ := hrel
    have OK := Lib.hid hok
    clear hok
    by_cases hlt : k < 3
    · have hk3 : k = 0 ∨ k = 1 ∨ k = 2 := by omega
      have K3 := Lib.hid hk3
      clear hk3
      cases hc : cgt (nth3 c v r k) 0
      · have bad := Lib.hid (B.out k hlt (by unfold okf; rw [hc]; rfl))
        rcases K3.out with rfl | rfl | rfl
        all_goals
          have e1 : (FloatKind.f64.format.order _ 0 == some Ordering.gt) = false := hc
          clear hc
          simp only [nth3] at e1
          go_wp2_with (go_at_call 32; refine (isfin_walk _ _).mono ?_; rintro e' w1 ⟨rfl, rfl⟩)
          all_goals go_ret
          all_goals
            exact ⟨rc_int bad.out.symm, hbw⟩
      · by_cases hf : Lk.Fin (nth3 c v r k)
        · have good : ∀ j, j < k + 1 → okf (nth3 c v r j) = true := fun j hj => by
            by_cases hjk : j < k
            · exact OK.out j hjk
            · obtain rfl : j = k := by omega
              unfold okf; rw [hc, decide_eq_true hf]; rfl
          have GD := Lib.hid good
          clear good
          rcases K3.out with rfl | rfl | rfl
          all_goals
            have e1 : (FloatKind.f64.format.order _ 0 == some Ordering.gt) = true := hc
            clear hc
            simp only [nth3] at e1 hf
            go_wp2_with (go_at_call 32; refine (isfin_walk _ _).mono ?_; rintro e' w1 ⟨rfl, rfl⟩)
            go_roundw
          case rel => exact ⟨1, by omega, by go_num, GD.out, c3, c4, ⟨f0, f1, f2⟩, hbw, hz⟩
          case measure => simp [intOf]
          case rel => exact ⟨2, by omega, by go_num, GD.out, c3, c4, ⟨f0, f1, f2⟩, hbw, hz⟩
          case measure => simp [intOf]
          case rel => exact ⟨3, by omega, by go_num, GD.out, c3, c4, ⟨f0, f1, f2⟩, hbw, hz⟩
          case measure => simp [intOf]
        · have bad := Lib.hid (B.out k hlt (by unfold okf; rw [decide_eq_false hf]; simp))
          rcases K3.out with rfl | rfl | rfl
          all_goals
            have e1 : (FloatKind.f64.format.order _ 0 == some Ordering.gt) = true := hc
            clear hc
            simp only [nth3] at e1 hf
            go_wp2_with (go_at_call 32; refine (isfin_walk _ _).mono ?_; rintro e' w1 ⟨rfl, rfl⟩)
            go_ret
            exact ⟨rc_int bad.out.symm, hbw⟩
    · obtain rfl : k = 3 := by omega
      have gd := G.out OK.out
      have GD := Lib.hid gd
      clear gd
      have CN : Hid (chkN e n = if e < 1 ∨ 16384 < e ∨ n < 1 ∨ 256 < n then 80 else if 262144 < e * n then 3 else 0) := Lib.hid rfl
      by_cases q1 : e < 1
      · go_wp2_with fail
        go_ret
        exact ⟨rc_int (by rw [GD.out, CN.out, if_pos (by omega)]), hbw⟩
      · by_cases q2 : 16384 < e
        · go_wp2_with fail
          go_ret
          exact ⟨rc_int (by rw [GD.out, CN.out, if_pos (by omega)]), hbw⟩
        · by_cases q3 : n < 1
          · go_wp2_with fail
            go_ret
            exact ⟨rc_int (by rw [GD.out, CN.out, if_pos (by omega)]), hbw⟩
          · by_cases q4 : 256 < n
            · go_wp2_with fail
              go_ret
              exact ⟨rc_int (by rw [GD.out, CN.out, if_pos (by omega)]), hbw⟩
            · have m1 : 0 ≤ e * n := Int.mul_nonneg (by omega) (by omega)
              have m2 : e * n ≤ 16384 * 256 := Int.mul_le_mul (by omega) (by omega) (by omega) (by omega)
              have hw : wrap64 (e * n) = e * n := by unfold wrap64; omega
              by_cases q5 : 262144 < e * n
              · go_wp2_with fail
                go_ret
                exact ⟨rc_int (by rw [GD.out, CN.out, if_neg (by omega), if_pos q5]), hbw⟩
              · go_wp2_with fail
                go_ret
                exact ⟨rc_int (by rw [GD.out, CN.out, if_neg (by omega), if_neg (Int.not_lt.2 q5)]), hbw⟩

theorem rseconds_walk (c v r : Nat) (e n : Int) (w : World) (h1 : 1 ≤ e) (h2 : e ≤ 16384) (hr : okf r = true) : Calls Try.prog 59 #[btv c v r e n] w (fun e' w' => e' = .returned (.float .f64 (sec e r)) ∧ Below w.heap.size w w') := by
  have HN := Lib.hid (sec_nn h1 h2 hr)
  go_enter Try.func59, Try.ntmps59
  go_wp2_with (((with_reducible refine wpList_float (x := ?_) (y := ?_) (X := ?_) (Y := ?_) rfl rfl ?_ ?_ ?_ ?_ ?_ ?_); (· rfl); (rotate_left 4); (· rfl); (· rfl); (· first | assumption | exact Is.refl _); (· first | assumption | exact Is.refl _); intro v n hv hl); have e9 := hv.eq HN.out; subst e9; clear hv)
  go_ret
  exact ⟨rfl, below_drewN ((Below.refl _ _).alloc (Nat.le_refl _) _) _⟩
theorem told_pos {y : Nat} (h : Lk.Fin y) : tld y = y ∧ tle y = 0 := by unfold tld tle; rw [if_pos h, if_pos h]; exact ⟨rfl, rfl⟩
theorem told_neg {y : Nat} (h : ¬ Lk.Fin y) : tld y = 0 ∧ tle y = 6 := by unfold tld tle; rw [if_neg h, if_neg h]; exact ⟨rfl, rfl⟩
theorem ask_no {c v r x : Nat} {e n : Int} (h : ¬ ask c v r e n x = 0) : (chk c v r e n = 0 ∧ ¬ Lk.Fin x ∧ ask c v r e n x = 6) ∨ (¬ chk c v r e n = 0 ∧ ask c v r e n x = chk c v r e n) := by
  unfold ask at h ⊢
  by_cases h1 : chk c v r e n = 0
  · rw [if_pos h1] at h ⊢
    by_cases h2 : Lk.Fin x
    · rw [if_pos h2] at h; exact absurd rfl h
    · rw [if_neg h2]; exact .inl ⟨h1, h2, rfl⟩
  · rw [if_neg h1]; exact .inr ⟨h1, rfl⟩
set_option maxHeartbeats 4000000 in
theorem rspeed_walk (c v r : Nat) (e n : Int) (x : Nat) (w : World) (h1 : -9223372036854775808 ≤ e) (h2 : e ≤ 9223372036854775807) (h3 : -9223372036854775808 ≤ n) (h4 : n ≤ 9223372036854775807) :
    Calls Try.prog 33 #[btv c v r e n, .float .f64 x] w (R2 (spd c v r e n x) w) := by
  by_cases hA : ask c v r e n x = 0
  · obtain ⟨hC, hF⟩ := ask_zero hA
    obtain ⟨oc, ov, or', e1, e2, _⟩ := gchk_zero hC
    have HC := Lib.hid hC
    have HR := Lib.hid or'
    have E : Hid (spd c v r e n x = (tld (spF v r e n x), tle (spF v r e n x))) := Lib.hid (by unfold spd; rw [if_pos hA])
    clear hA hC oc ov or'
    go_enter Try.func33, Try.ntmps33
    go_wp2_with (first | (go_at_call 31; refine (rcheck_walk c v r e n _ h1 h2 h3 h4).mono ?_; rw [HC.out]; rintro e' w1 ⟨rfl, hb⟩; have c0 := (hb.cell (p := ⟨w.heap.size, 0, none⟩) (by simp)).trans (by go_simp : _ = some (.float .f64 c)); have c1 := (hb.cell (p := ⟨w.heap.size, 1, none⟩) (by simp)).trans (by go_simp : _ = some (.float .f64 v)); have c2 := (hb.cell (p := ⟨w.heap.size, 2, none⟩) (by simp)).trans (by go_simp : _ = some (.float .f64 r)); have c3 := (hb.cell (p := ⟨w.heap.size, 3, none⟩) (by simp)).trans (by go_simp : _ = some (.int .i64 e)); have c4 := (hb.cell (p := ⟨w.heap.size, 4, none⟩) (by simp)).trans (by go_simp : _ = some (.int .i64 n)); have hz1 := hb.size; have hz0 : w.heap.size < w1.heap.size := (by simp at hz1; omega); have hB : Below w.heap.size w w1 := ((Below.refl _ _).alloc (Nat.le_refl _) _).trans (hb.mono (by simp)); clear hb) | (go_at_call 32; refine (isfin_walk _ _).mono ?_; rintro e' w2 ⟨rfl, rfl⟩) | ((with_reducible refine wpList_float (x := ?_) (y := ?_) (X := ?_) (Y := ?_) rfl rfl ?_ ?_ ?_ ?_ ?_ ?_); (· rfl); (rotate_left 4); (· rfl); (· rfl); (· first | assumption | exact Is.refl _); (· first | assumption | exact Is.refl _); intro v n hv hl))
    refine (rseconds_walk c _ r e _ _ e1 e2 HR.out).mono ?_; rintro e' w2 ⟨rfl, hb2⟩
    have hB2 := (below_drewN hB _).trans (hb2.mono hB.size)
    clear hb2
    go_wp2_with (first | (go_at_call 32; refine (isfin_walk _ _).mono ?_; rintro e' w3 ⟨rfl, rfl⟩) | ((with_reducible refine wpList_float (x := ?_) (y := ?_) (X := ?_) (Y := ?_) rfl rfl ?_ ?_ ?_ ?_ ?_ ?_); (· rfl); (rotate_left 4); (· rfl); (· rfl); (· first | assumption | exact Is.refl _); (· first | assumption | exact Is.refl _); intro v n hv hl))
    · rename_i hh
      have hnf : ¬ Lk.Fin (Op.negFloat FloatKind.f64 v) := by simpa using hh
      have hI := told_is (is_fneg hv hl)
      have hT := told_neg hnf
      refine bodyPost_ret (results_tmp2 rfl _ _ _) rfl ?_
      exact ⟨(ret_two ⟨hT.1.symm.trans hI.1, hT.2.symm.trans hI.2⟩).trans (r2 E.out), by first | exact Below.drew hB2 | exact below_drewN hB2 _ | exact hB2⟩
    · rename_i hh
      have hnf : Lk.Fin (Op.negFloat FloatKind.f64 v) := by simpa using hh
      have hI := told_is (is_fneg hv hl)
      have hT := told_pos hnf
      refine bodyPost_ret (results_tmp2 rfl _ _ _) rfl ?_
      exact ⟨(ret_two ⟨hT.1.symm.trans hI.1, hT.2.symm.trans hI.2⟩).trans (r2 E.out), by first | exact Below.drew hB2 | exact below_drewN hB2 _ | exact hB2⟩
  · have E : Hid (spd c v r e n x = (0, ask c v r e n x)) := Lib.hid (by unfold spd; rw [if_neg hA])
    rcases ask_no hA with ⟨hC, hF, h6⟩ | ⟨hC, h6⟩
    · have HC := Lib.hid hC
      clear hA hC
      go_enter Try.func33, Try.ntmps33
      go_wp2_with (first | (go_at_call 31; refine (rcheck_walk c v r e n _ h1 h2 h3 h4).mono ?_; rw [HC.out]; rintro e' w1 ⟨rfl, hb⟩; have hB : Below w.heap.size w w1 := ((Below.refl _ _).alloc (Nat.le_refl _) _).trans (hb.mono (by simp))) | (go_at_call 32; refine (isfin_walk _ _).mono ?_; rintro e' w2 ⟨rfl, rfl⟩))
      have E2 : spd c v r e n x = (0, 6) := E.out.trans (by rw [h6])
      refine bodyPost_ret (results_tmp2 rfl _ _ _) rfl ?_
      exact ⟨r2 E2, hB⟩
    · go_enter Try.func33, Try.ntmps33
      go_wp2_with (go_at_call 31; refine (rcheck_walk c v r e n _ h1 h2 h3 h4).mono ?_; rintro e' w1 ⟨rfl, hb⟩; have hB : Below w.heap.size w w1 := ((Below.refl _ _).alloc (Nat.le_refl _) _).trans (hb.mono (by simp)))
      have E2 : spd c v r e n x = (0, chk c v r e n) := E.out.trans (by rw [h6])
      refine bodyPost_ret (results_tmp2 rfl _ _ _) rfl ?_
      exact ⟨r2 E2, hB⟩
def sameF (x y : Nat) : Bool := decide ((Nan x ∧ Nan y) ∨ (¬ Nan x ∧ ¬ Nan y ∧ x = y))
theorem sameF_is {x y : Nat} (h : Is x y) : sameF x y = true := by
  unfold sameF; rw [decide_eq_true_eq]
  rcases h with h | ⟨rfl, h⟩
  · exact .inl h
  · exact .inr ⟨h, h, rfl⟩
theorem samefloat_walk (x y : Nat) (w : World) : Calls Try.prog 34 #[.float .f64 x, .float .f64 y] w (fun e w' => e = .returned (.bool (sameF x y)) ∧ w = w') := by
  have h1 := ne_self x
  have h2 := ne_self y
  have h1' := eq_self x
  have h2' := eq_self y
  have H : Hid (sameF x y = decide ((Nan x ∧ Nan y) ∨ (¬ Nan x ∧ ¬ Nan y ∧ x = y))) := rfl
  by_cases c1 : Nan x <;> by_cases c2 : Nan y <;> simp only [c1, c2, decide_true, decide_false, not_true_eq_false, not_false_eq_true] at h1 h2 h1' h2' <;> have K1 := Lib.hid c1 <;> have K2 := Lib.hid c2 <;> clear c1 c2
  all_goals
    go_enter Try.func34, Try.ntmps34
    go_wp2
    go_ret
    refine ⟨ret_bool ?_, rfl⟩
    rw [H.out]
    have k1 := K1.out
    have k2 := K2.out
    first | (simp [k1, k2]; done) | (simp only [k1, k2, and_false, false_or, not_false_eq_true, true_and]; show ((x : Int) == (y : Int)) = decide (x = y); rw [Bool.eq_iff_iff, beq_iff_eq, decide_eq_true_eq]; omega)
def sameP (p q : Pt) : Bool := sameF p.range q.range && (sameF p.speed q.speed && (sameF p.power q.power && (sameF p.bearing q.bearing && sameF p.time q.time)))
theorem sameplot_walk (p q : Pt) (w : World) : Calls Try.prog 12 #[pv p, pv q] w (fun e w' => e = .returned (.bool (sameP p q)) ∧ Below w.heap.size w w') := by
  have H : Hid (sameP p q = (sameF p.range q.range && (sameF p.speed q.speed && (sameF p.power q.power && (sameF p.bearing q.bearing && sameF p.time q.time))))) := rfl
  have S : Hid (∀ x y w, Calls Try.prog 34 #[.float .f64 x, .float .f64 y] w (fun e w' => e = .returned (.bool (sameF x y)) ∧ w = w')) := Lib.hid samefloat_walk
  obtain ⟨p0, p1, p2, p3, p4⟩ := p
  obtain ⟨q0, q1, q2, q3, q4⟩ := q
  simp only at H
  go_enter Try.func12, Try.ntmps12
  go_wp2_with (go_at_call 34; refine (S.out _ _ _).mono ?_; rintro e w1 ⟨rfl, rfl⟩)
  all_goals
    refine bodyPost_ret (v := ?_) ?_ rfl ?_
    rotate_left
    · simp [results, Try.results12, go_sem]; rfl
    · exact ⟨ret_bool (by rw [H.out]; simp [*]), by (repeat' (first | exact Below.refl _ _ | refine below_drewN ?_ _ | refine Below.setCell ?_ (by first | exact Nat.le_refl _ | (simp; done) | (simp; omega)) _ | refine Below.alloc ?_ (by first | exact Nat.le_refl _ | (simp; done) | (simp; omega)) _))⟩
end Go.Proofs.Ytdngkeefbpffcaa
