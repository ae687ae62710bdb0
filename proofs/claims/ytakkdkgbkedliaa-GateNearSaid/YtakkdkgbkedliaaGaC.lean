import Derived.Test.YtakkdkgbkedliaaGaP
import Derived.Test.YtakkdkgbkedliaaFlR
import Derived.Test.YtakkdkgbkedliaaFlI
set_option autoImplicit false
set_option linter.unusedVariables false
namespace Go.Proofs.Ytakkdkgbkedliaa
open Go.RowKit Lk
theorem integral_of {x : Nat} (nm : String) (way : Ieee.Toward) (h : ¬ Nan x) : Extern.MathFloor.toIntegral nm way #[.float .f64 x] = pure (.float .f64 (FloatKind.f64.encode ((FloatKind.f64.decode x).integral way))) := by
  have key : ∀ d : Ieee.Datum, (∀ s t, d ≠ .nan s t) → (match d with
      | .nan s t => if FloatKind.f64.format.quiet t = t then pure (Value.float .f64 x) else do
        let kept ← choose (.extern "math.Floor,Ceil,Trunc,RoundToEven.signallingNaN kept" 2)
        pure (Value.float .f64 (if kept == 1 then x else FloatKind.f64.encode (.nan s (FloatKind.f64.format.quiet t))))
      | d => (pure (Value.float .f64 (FloatKind.f64.encode (d.integral way))) : Sem Value)) = pure (Value.float .f64 (FloatKind.f64.encode (d.integral way))) := by
    intro d hd
    cases d with
    | nan s t => exact absurd rfl (hd s t)
    | number _ _ _ => rfl
    | infinity _ => rfl
  refine key (FloatKind.f64.decode x) (fun s t => ?_)
  unfold FloatKind.decode
  rw [fmt64]
  rcases not_nan h with h | h
  · rw [read_fin h]; simp
  · rw [read_inf h]; simp
theorem run_floor {x : Nat} (h : ¬ Nan x) (w : World) : (callFunc 40 #[.float .f64 x]).run Try.prog w = .ok (.value (.float .f64 (flr x))) w := by
  rw [run_callFunc_extern Try.func40 (by kernel_rfl) (by kernel_rfl) (by kernel_rfl) (e := Extern.MathFloor.toIntegral "math.archFloor" .down) (by kernel_rfl), integral_of _ _ h]
  rfl
theorem floor_walk (x : Nat) (w : World) (h : ¬ Nan x) : Calls Try.prog 31 #[.float .f64 x] w (fun e w' => e = .returned (.float .f64 (flr x)) ∧ w = w') := by
  have H := fun w => run_floor h w
  go_enter Try.func31, Try.ntmps31
  go_wp2
  go_ret
  exact ⟨rfl, rfl⟩
theorem chk_zero {c v r : Nat} {e n : Int} (h : chk c v r e n = 0) : okf c = true ∧ okf v = true ∧ okf r = true ∧ 1 ≤ e ∧ e ≤ 16384 ∧ 1 ≤ n ∧ n ≤ 256 := by
  unfold chk at h
  split at h
  · rename_i h3
    unfold chk3 at h3
    simp only [Bool.and_eq_true] at h3
    unfold chkN at h
    split at h
    · cases h
    · exact ⟨h3.1.1, h3.1.2, h3.2, by omega, by omega, by omega, by omega⟩
  · cases h
theorem ask_zero {c v r x : Nat} {e n : Int} (h : ask c v r e n x = 0) : chk c v r e n = 0 ∧ Lk.Fin x := by
  unfold ask at h
  split at h
  · split at h
    · exact ⟨by assumption, by assumption⟩
    · cases h
  · rename_i h1; exact absurd h h1
theorem okf_pos {c : Nat} (h : okf c = true) : Lk.Fin c ∧ ev c ≠ 0 := by
  obtain ⟨h1, h2⟩ := okf_ff h
  have : cgt c 0 = true := h1
  rw [cgt_iff, show ev 0 = 0 by kernel_rfl] at this
  exact ⟨h2, by obtain ⟨_, _, h⟩ := this; grind⟩
theorem div_nn {m c : Nat} (hm : Lk.Fin m) (hc : okf c = true) : ¬ Nan (fdiv m c) := by
  obtain ⟨h1, h2⟩ := okf_pos hc
  exact (fdiv_fin hm h1 h2).2.1
theorem okf_gt {c : Nat} (h : okf c = true) : 0 < ev c := by
  obtain ⟨h1, h2⟩ := okf_ff h
  have : cgt c 0 = true := h1
  rw [cgt_iff, show ev 0 = 0 by kernel_rfl] at this
  exact this.2.2
theorem not_below {m : Nat} (hf : Lk.Fin m) (h : clt m 0 = false) : 0 ≤ ev m := by
  apply Decidable.byContradiction
  intro hc
  have : clt m 0 = true := clt_iff.2 ⟨hf.not_nan, by decide +kernel, by rw [show ev 0 = 0 by kernel_rfl]; grind⟩
  rw [this] at h; cases h
theorem ev_far : ev 4832362400168542208 = ((1125899906842624 : Nat) : Rat) := by kernel_rfl
theorem div_ge {m c : Nat} (hm : Lk.Fin m) (h0 : 0 ≤ ev m) (hc : okf c = true) : 0 ≤ ev (fdiv m c) := by
  obtain ⟨h1, h2⟩ := okf_pos hc
  obtain ⟨_, _, h3, _⟩ := fdiv_fin hm h1 h2
  rw [h3]
  refine rc_nonneg ?_
  rw [Rat.div_def]
  exact Rat.mul_nonneg h0 (Rat.le_of_lt (Rat.inv_pos.2 (okf_gt hc)))
theorem q_conv {y : Nat} (hn : ¬ Nan y) (h0 : 0 ≤ ev y) (h : clt (flr y) 4832362400168542208 = true) : ∃ z : Nat, floatToIntVal .f64 (flr y) .i64 = some (z : Int) ∧ z < 2 ^ 50 := by
  obtain ⟨_, _, h3⟩ := clt_iff.1 h
  rw [ev_far] at h3
  rcases not_nan hn with hf | hi
  · obtain ⟨z, z1, z2, z3, z4, z5, z6⟩ := flr_spec hf h0
    have hz : z < 2 ^ 50 := by
      apply Decidable.byContradiction
      intro hc
      have h4 : rc ((1125899906842624 : Nat) : Rat) ≤ rc (z : Rat) := rc_mono (by exact_mod_cast (show 1125899906842624 ≤ z by omega))
      have h5 : rc ((1125899906842624 : Nat) : Rat) = ((1125899906842624 : Nat) : Rat) := rc_int (n := 1125899906842624) (by decide)
      rw [h5] at h4
      rw [z6] at h3
      grind
    exact ⟨z, (z5 (by omega)).conv (by omega) (by omega), hz⟩
  · exfalso
    have : flr y = wd (sgn y) INF := by
      unfold flr FloatKind.decode
      rw [fmt64, read_inf hi]
      exact write_inf _
    have hs : sgn y = false := by
      cases hs : sgn y
      · rfl
      · have := ev_nonpos_of_sgn hs
        have h6 := inf_ev hi
        have h7 := p2_pos 1024
        rcases h6 with h6 | h6 <;> rw [h6] at this h0 <;> grind
    rw [this, hs] at h3
    have h8 : ev (wd false INF) = p2 1024 := by
      have q1 := inf_ev (x := wd false INF) (by decide +kernel)
      have q2 := ev_nonneg_of_sgn (x := wd false INF) (by decide +kernel)
      have q3 := p2_pos 1024
      grind
    rw [h8] at h3
    have h9 := (int_lt_p2 (n := 1125899906842624) (by decide)).2
    have h10 : ((1125899906842624 : Int) : Rat) = ((1125899906842624 : Nat) : Rat) := rfl
    rw [h10] at h9
    grind
/-- which cell, how many turns, and what is wrong -/
def celN (e : Int) (q : Nat) : Int × Int × Int := if clt q 4832362400168542208 then (((floatToIntVal .f64 q .i64).getD 0).tmod e, IntKind.i64.wrap (((floatToIntVal .f64 q .i64).getD 0) / e), 0) else (0, 0, 3)
def cel (c v r : Nat) (e n : Int) (m : Nat) : Int × Int × Int :=
  if ask c v r e n m = 0 then (if clt m 0 then (0, 0, 2) else celN e (flr (fdiv m c))) else (0, 0, ask c v r e n m)
theorem Below.drew {B : Nat} {w w' : World} (h : Below B w w') {n : Nat} : Below B w (w'.drewN n) := below_drewN h n
def R3 (x : Int × Int × Int) (w : World) (e' : Ending) (w' : World) : Prop := e' = .returned (.tuple #[.int .i64 x.1, .int .i64 x.2.1, .int .i64 x.2.2]) ∧ Below w.heap.size w w'
theorem r3 {x y : Int × Int × Int} (h : x = y) : Ending.returned (.tuple #[.int .i64 y.1, .int .i64 y.2.1, .int .i64 y.2.2]) = .returned (.tuple #[.int .i64 x.1, .int .i64 x.2.1, .int .i64 x.2.2]) := by rw [h]
set_option maxHeartbeats 4000000 in
theorem cell_walk (c v r : Nat) (e n : Int) (m : Nat) (w : World) (h1 : -9223372036854775808 ≤ e) (h2 : e ≤ 9223372036854775807) (h3 : -9223372036854775808 ≤ n) (h4 : n ≤ 9223372036854775807) :
    Calls Try.prog 11 #[btv c v r e n, .float .f64 m] w (R3 (cel c v r e n m) w) := by
  by_cases hA : ask c v r e n m = 0
  · obtain ⟨hC, hF⟩ := ask_zero hA
    obtain ⟨oc, _, _, e1, e2, _⟩ := chk_zero hC
    have HN := Lib.hid (div_nn hF oc)
    have HA := Lib.hid hA
    cases hl : clt m 0
    · have l1 : (FloatKind.f64.format.order m 0 == some Ordering.lt) = false := hl
      cases hq : clt (flr (fdiv m c)) 4832362400168542208
      · have E : Hid (cel c v r e n m = (0, 0, 3)) := Lib.hid (by unfold cel celN; rw [if_pos hA, hl, hq]; rfl)
        have l2 : (FloatKind.f64.format.order (flr (fdiv m c)) 4832362400168542208 == some Ordering.lt) = false := hq
        clear hq hl hA hC hF oc
        go_enter Try.func11, Try.ntmps11
        go_wp2_with (first | (go_at_call 30; refine (asked_walk c v r e n m _ h1 h2 h3 h4).mono ?_; rw [HA.out]; rintro e' w1 ⟨rfl, hb⟩; have c0 := (hb.cell (p := ⟨w.heap.size, 0, none⟩) (by simp)).trans (by go_simp : _ = some (.float .f64 c)); have c3 := (hb.cell (p := ⟨w.heap.size, 3, none⟩) (by simp)).trans (by go_simp : _ = some (.int .i64 e)); have hB : Below w.heap.size w w1 := ((Below.refl _ _).alloc (Nat.le_refl _) _).trans (hb.mono (by simp))) | (((with_reducible refine wpList_float (x := ?_) (y := ?_) (X := ?_) (Y := ?_) rfl rfl ?_ ?_ ?_ ?_ ?_ ?_); (· rfl); (rotate_left 4); (· rfl); (· rfl); (· first | assumption | exact Is.refl _); (· first | assumption | exact Is.refl _); intro v n hv hl); obtain rfl := hv.eq HN.out) | (go_at_call 31; refine (floor_walk _ _ HN.out).mono ?_; rintro e' w2 ⟨rfl, rfl⟩))
        refine bodyPost_ret (results_tmp3 rfl _ _ _) rfl ?_
        exact ⟨r3 E.out, Below.drew hB⟩
      · obtain ⟨z, hz, hz2⟩ := q_conv (div_nn hF oc) (div_ge hF (not_below hF hl) oc) hq
        have E : Hid (cel c v r e n m = ((z : Int).tmod e, IntKind.i64.wrap ((z : Int) / e), 0)) := Lib.hid (by unfold cel celN; rw [if_pos hA, hl, hq, hz]; rfl)
        have l2 : (FloatKind.f64.format.order (flr (fdiv m c)) 4832362400168542208 == some Ordering.lt) = true := hq
        have hc : ∀ w, (convert 22 3 (.float .f64 (flr (fdiv m c)))).run Try.prog w = .ok (.int .i64 z) w := fun w => run_convert_float_int w 22 3 .f64 .i64 _ z (by rw [Try.underlying22]; rfl) Try.underlying3 hz
        have he0 : ¬ e = 0 := by omega
        have he1 : ¬ e = -1 := by omega
        clear hq hl hA hC hF oc hz
        go_enter Try.func11, Try.ntmps11
        go_wp2_with (first | (go_at_call 30; refine (asked_walk c v r e n m _ h1 h2 h3 h4).mono ?_; rw [HA.out]; rintro e' w1 ⟨rfl, hb⟩; have c0 := (hb.cell (p := ⟨w.heap.size, 0, none⟩) (by simp)).trans (by go_simp : _ = some (.float .f64 c)); have c3 := (hb.cell (p := ⟨w.heap.size, 3, none⟩) (by simp)).trans (by go_simp : _ = some (.int .i64 e)); have hB : Below w.heap.size w w1 := ((Below.refl _ _).alloc (Nat.le_refl _) _).trans (hb.mono (by simp))) | (((with_reducible refine wpList_float (x := ?_) (y := ?_) (X := ?_) (Y := ?_) rfl rfl ?_ ?_ ?_ ?_ ?_ ?_); (· rfl); (rotate_left 4); (· rfl); (· rfl); (· first | assumption | exact Is.refl _); (· first | assumption | exact Is.refl _); intro v n hv hl); obtain rfl := hv.eq HN.out) | (go_at_call 31; refine (floor_walk _ _ HN.out).mono ?_; rintro e' w2 ⟨rfl, rfl⟩))
        refine wp_region_drew (fun _ _ _ => False) (by kernel_rfl) (by kernel_rfl) ?_
        repeat' (refine wpSet_step (fun K hK => ?_); go_simp; first | (refine drew_float (x := ?_) (y := ?_) (X := ?_) (Y := ?_) rfl ?_ ?_ ?_ ?_ ?_ ?_; rotate_left 4; (· rfl); (· rfl); (· rfl); (· first | assumption | exact Is.refl _); (· first | assumption | exact Is.refl _); intro v hv hl; refine hK _ ?_; clear hK K) | (refine drew_value (v := ?_) (fun n => ?_) ?_; rotate_left; (· go_simp; rfl); (refine hK _ ?_; clear hK K)))
        refine wpSet_nil ?_
        intro n1
        go_wp2_with fail
        refine bodyPost_ret (results_tmp3 rfl _ _ _) rfl ?_
        exact ⟨r3 E.out, Below.drew (Below.drew hB)⟩
    · have E : Hid (cel c v r e n m = (0, 0, 2)) := Lib.hid (by unfold cel; rw [if_pos hA, hl]; rfl)
      have l1 : (FloatKind.f64.format.order m 0 == some Ordering.lt) = true := hl
      clear hl hA hC hF oc
      go_enter Try.func11, Try.ntmps11
      go_wp2_with (first | (go_at_call 30; refine (asked_walk c v r e n m _ h1 h2 h3 h4).mono ?_; rw [HA.out]; rintro e' w1 ⟨rfl, hb⟩; have c0 := (hb.cell (p := ⟨w.heap.size, 0, none⟩) (by simp)).trans (by go_simp : _ = some (.float .f64 c)); have c3 := (hb.cell (p := ⟨w.heap.size, 3, none⟩) (by simp)).trans (by go_simp : _ = some (.int .i64 e)); have hB : Below w.heap.size w w1 := ((Below.refl _ _).alloc (Nat.le_refl _) _).trans (hb.mono (by simp))) | (((with_reducible refine wpList_float (x := ?_) (y := ?_) (X := ?_) (Y := ?_) rfl rfl ?_ ?_ ?_ ?_ ?_ ?_); (· rfl); (rotate_left 4); (· rfl); (· rfl); (· first | assumption | exact Is.refl _); (· first | assumption | exact Is.refl _); intro v n hv hl); obtain rfl := hv.eq HN.out) | (go_at_call 31; refine (floor_walk _ _ HN.out).mono ?_; rintro e' w2 ⟨rfl, rfl⟩))
      refine bodyPost_ret (results_tmp3 rfl _ _ _) rfl ?_
      exact ⟨r3 E.out, hB⟩
  · have E : Hid (cel c v r e n m = (0, 0, ask c v r e n m)) := Lib.hid (by unfold cel; rw [if_neg hA])
    go_enter Try.func11, Try.ntmps11
    go_wp2_with (go_at_call 30; refine (asked_walk c v r e n m _ h1 h2 h3 h4).mono ?_; rintro e' w1 ⟨rfl, hb⟩; have hB : Below w.heap.size w w1 := ((Below.refl _ _).alloc (Nat.le_refl _) _).trans (hb.mono (by simp)))
    refine bodyPost_ret (results_tmp3 rfl _ _ _) rfl ?_
    exact ⟨r3 E.out, hB⟩
theorem flr_nn {y : Nat} (h : ¬ Nan y) : ¬ Nan (flr y) := by
  unfold flr FloatKind.decode
  rw [fmt64]
  rcases not_nan h with h | h
  · rw [read_fin h]
    obtain ⟨c, c1, _, c3, _⟩ := write_number (sgn y) (Ieee.Toward.down.cut (sgn y) (nm (rg y) <<< (pl (rg y)).toNat) (-pl (rg y)).toNat) 0
    show ¬ Nan (Ieee.double.write _)
    show ¬ Nan (Ieee.double.write (.number (sgn y) (Ieee.Toward.down.cut (sgn y) (nm (rg y) <<< (pl (rg y)).toNat) (-pl (rg y)).toNat) 0))
    rw [c1]; exact c3
  · rw [read_inf h]
    show ¬ Nan (Ieee.double.write (.infinity (sgn y)))
    rw [write_inf]; exact wd_inf_nan _
theorem not_lt_ge {x y : Nat} (hn : ¬ Nan x) (h : clt x y = false) (hy : ¬ Nan y := by decide +kernel) : cge x y = true := by
  refine cge_iff.2 ⟨hn, hy, ?_⟩
  apply Decidable.byContradiction
  intro hc
  have : clt x y = true := clt_iff.2 ⟨hn, hy, by grind⟩
  rw [this] at h; cases h
theorem lt_not_ge {x y : Nat} (h : clt x y = true) : cge x y = false := by
  rw [← Bool.not_eq_true, cge_iff]
  rintro ⟨_, _, h2⟩
  have := (clt_iff.1 h).2.2
  grind
set_option maxHeartbeats 4000000 in
theorem rcell_walk (c v r : Nat) (e n : Int) (m : Nat) (w : World) (h1 : -9223372036854775808 ≤ e) (h2 : e ≤ 9223372036854775807) (h3 : -9223372036854775808 ≤ n) (h4 : n ≤ 9223372036854775807) :
    Calls Try.prog 12 #[btv c v r e n, .float .f64 m] w (R3 (cel c v r e n m) w) := by
  by_cases hA : ask c v r e n m = 0
  · obtain ⟨hC, hF⟩ := ask_zero hA
    obtain ⟨oc, _, _, e1, e2, _⟩ := chk_zero hC
    have HN := Lib.hid (div_nn hF oc)
    have HA := Lib.hid hA
    have HC := Lib.hid hC
    have HF := hF
    cases hl : clt m 0
    · have l1 : (FloatKind.f64.format.order m 0 == some Ordering.lt) = false := hl
      cases hq : clt (flr (fdiv m c)) 4832362400168542208
      · have E : Hid (cel c v r e n m = (0, 0, 3)) := Lib.hid (by unfold cel celN; rw [if_pos hA, hl, hq]; rfl)
        have l2 : (FloatKind.f64.format.order (flr (fdiv m c)) 4832362400168542208 == some Ordering.gt || FloatKind.f64.format.order (flr (fdiv m c)) 4832362400168542208 == some Ordering.eq) = true := not_lt_ge (flr_nn (div_nn hF oc)) hq
        clear hq hl hA hC hF oc
        go_enter Try.func12, Try.ntmps12
        go_wp2_with (first | (go_at_call 10; refine (rcheck_walk c v r e n _ h1 h2 h3 h4).mono ?_; rw [HC.out]; rintro e' w1 ⟨rfl, hb⟩; have c0 := (hb.cell (p := ⟨w.heap.size, 0, none⟩) (by simp)).trans (by go_simp : _ = some (.float .f64 c)); have c3 := (hb.cell (p := ⟨w.heap.size, 3, none⟩) (by simp)).trans (by go_simp : _ = some (.int .i64 e)); have hB : Below w.heap.size w w1 := ((Below.refl _ _).alloc (Nat.le_refl _) _).trans (hb.mono (by simp))) | (((with_reducible refine wpList_float (x := ?_) (y := ?_) (X := ?_) (Y := ?_) rfl rfl ?_ ?_ ?_ ?_ ?_ ?_); (· rfl); (rotate_left 4); (· rfl); (· rfl); (· first | assumption | exact Is.refl _); (· first | assumption | exact Is.refl _); intro v n hv hl); obtain rfl := hv.eq HN.out) | (go_at_call 29; refine (isfin_walk _ _).mono ?_; rintro e' w2 ⟨rfl, rfl⟩) | (go_at_call 31; refine (floor_walk _ _ HN.out).mono ?_; rintro e' w2 ⟨rfl, rfl⟩))
        refine bodyPost_ret (results_tmp3 rfl _ _ _) rfl ?_
        exact ⟨r3 E.out, Below.drew hB⟩
      · obtain ⟨z, hz, hz2⟩ := q_conv (div_nn hF oc) (div_ge hF (not_below hF hl) oc) hq
        have E : Hid (cel c v r e n m = ((z : Int).tmod e, IntKind.i64.wrap ((z : Int) / e), 0)) := Lib.hid (by unfold cel celN; rw [if_pos hA, hl, hq, hz]; rfl)
        have l2 : (FloatKind.f64.format.order (flr (fdiv m c)) 4832362400168542208 == some Ordering.gt || FloatKind.f64.format.order (flr (fdiv m c)) 4832362400168542208 == some Ordering.eq) = false := lt_not_ge hq
        have hc : ∀ w, (convert 22 3 (.float .f64 (flr (fdiv m c)))).run Try.prog w = .ok (.int .i64 z) w := fun w => run_convert_float_int w 22 3 .f64 .i64 _ z (by rw [Try.underlying22]; rfl) Try.underlying3 hz
        have he0 : ¬ e = 0 := by omega
        have he1 : ¬ e = -1 := by omega
        clear hq hl hA hC hF oc hz
        go_enter Try.func12, Try.ntmps12
        go_wp2_with (first | (go_at_call 10; refine (rcheck_walk c v r e n _ h1 h2 h3 h4).mono ?_; rw [HC.out]; rintro e' w1 ⟨rfl, hb⟩; have c0 := (hb.cell (p := ⟨w.heap.size, 0, none⟩) (by simp)).trans (by go_simp : _ = some (.float .f64 c)); have c3 := (hb.cell (p := ⟨w.heap.size, 3, none⟩) (by simp)).trans (by go_simp : _ = some (.int .i64 e)); have hB : Below w.heap.size w w1 := ((Below.refl _ _).alloc (Nat.le_refl _) _).trans (hb.mono (by simp))) | (((with_reducible refine wpList_float (x := ?_) (y := ?_) (X := ?_) (Y := ?_) rfl rfl ?_ ?_ ?_ ?_ ?_ ?_); (· rfl); (rotate_left 4); (· rfl); (· rfl); (· first | assumption | exact Is.refl _); (· first | assumption | exact Is.refl _); intro v n hv hl); obtain rfl := hv.eq HN.out) | (go_at_call 29; refine (isfin_walk _ _).mono ?_; rintro e' w2 ⟨rfl, rfl⟩) | (go_at_call 31; refine (floor_walk _ _ HN.out).mono ?_; rintro e' w2 ⟨rfl, rfl⟩))
        refine wp_region_drew (fun _ _ _ => False) (by kernel_rfl) (by kernel_rfl) ?_
        repeat' (refine wpSet_step (fun K hK => ?_); go_simp; first | (refine drew_float (x := ?_) (y := ?_) (X := ?_) (Y := ?_) rfl ?_ ?_ ?_ ?_ ?_ ?_; rotate_left 4; (· rfl); (· rfl); (· rfl); (· first | assumption | exact Is.refl _); (· first | assumption | exact Is.refl _); intro v hv hl; refine hK _ ?_; clear hK K) | (refine drew_value (v := ?_) (fun n => ?_) ?_; rotate_left; (· go_simp; rfl); (refine hK _ ?_; clear hK K)))
        refine wpSet_nil ?_
        intro n1
        go_wp2_with fail
        refine bodyPost_ret (results_tmp3 rfl _ _ _) rfl ?_
        exact ⟨r3 E.out, Below.drew (Below.drew hB)⟩
    · have E : Hid (cel c v r e n m = (0, 0, 2)) := Lib.hid (by unfold cel; rw [if_pos hA, hl]; rfl)
      have l1 : (FloatKind.f64.format.order m 0 == some Ordering.lt) = true := hl
      clear hl hA hC hF oc
      go_enter Try.func12, Try.ntmps12
      go_wp2_with (first | (go_at_call 10; refine (rcheck_walk c v r e n _ h1 h2 h3 h4).mono ?_; rw [HC.out]; rintro e' w1 ⟨rfl, hb⟩; have c0 := (hb.cell (p := ⟨w.heap.size, 0, none⟩) (by simp)).trans (by go_simp : _ = some (.float .f64 c)); have c3 := (hb.cell (p := ⟨w.heap.size, 3, none⟩) (by simp)).trans (by go_simp : _ = some (.int .i64 e)); have hB : Below w.heap.size w w1 := ((Below.refl _ _).alloc (Nat.le_refl _) _).trans (hb.mono (by simp))) | (((with_reducible refine wpList_float (x := ?_) (y := ?_) (X := ?_) (Y := ?_) rfl rfl ?_ ?_ ?_ ?_ ?_ ?_); (· rfl); (rotate_left 4); (· rfl); (· rfl); (· first | assumption | exact Is.refl _); (· first | assumption | exact Is.refl _); intro v n hv hl); obtain rfl := hv.eq HN.out) | (go_at_call 29; refine (isfin_walk _ _).mono ?_; rintro e' w2 ⟨rfl, rfl⟩) | (go_at_call 31; refine (floor_walk _ _ HN.out).mono ?_; rintro e' w2 ⟨rfl, rfl⟩))
      refine bodyPost_ret (results_tmp3 rfl _ _ _) rfl ?_
      exact ⟨r3 E.out, hB⟩
  · have E : Hid (cel c v r e n m = (0, 0, ask c v r e n m)) := Lib.hid (by unfold cel; rw [if_neg hA])
    by_cases hC : chk c v r e n = 0
    · have hF : ¬ Lk.Fin m := fun hf => hA (by unfold ask; rw [if_pos hC, if_pos hf])
      have E2 : Hid (cel c v r e n m = (0, 0, 6)) := Lib.hid (by rw [E.out]; unfold ask; rw [if_pos hC, if_neg hF])
      have HC := Lib.hid hC
      clear hC hA
      go_enter Try.func12, Try.ntmps12
      go_wp2_with (first | (go_at_call 10; refine (rcheck_walk c v r e n _ h1 h2 h3 h4).mono ?_; rw [HC.out]; rintro e' w1 ⟨rfl, hb⟩; have hB : Below w.heap.size w w1 := ((Below.refl _ _).alloc (Nat.le_refl _) _).trans (hb.mono (by simp))) | (go_at_call 29; refine (isfin_walk _ _).mono ?_; rintro e' w2 ⟨rfl, rfl⟩))
      refine bodyPost_ret (results_tmp3 rfl _ _ _) rfl ?_
      exact ⟨r3 E2.out, hB⟩
    · have E2 : Hid (cel c v r e n m = (0, 0, chk c v r e n)) := Lib.hid (by rw [E.out]; unfold ask; rw [if_neg hC])
      go_enter Try.func12, Try.ntmps12
      go_wp2_with (first | (go_at_call 10; refine (rcheck_walk c v r e n _ h1 h2 h3 h4).mono ?_; rintro e' w1 ⟨rfl, hb⟩; have hB : Below w.heap.size w w1 := ((Below.refl _ _).alloc (Nat.le_refl _) _).trans (hb.mono (by simp))))
      refine bodyPost_ret (results_tmp3 rfl _ _ _) rfl ?_
      exact ⟨r3 E2.out, hB⟩
end Go.Proofs.Ytakkdkgbkedliaa
