/-
  What is proved: for every beat, speed and bin the law GateSigns returns true, and its arguments read as before. No conditions.
-/
import Derived.Test.YtakkdkgbkedliaaGaN
import Derived.Test.YtakkdkgbkedliaaRows
set_option autoImplicit false
set_option linter.unusedVariables false
namespace Go.Proofs.Ytakkdkgbkedliaa
open Go.RowKit Go.ChangeShapes Go.WideShapes Go.ChangeAt Lk
set_option maxHeartbeats 4000000 in
theorem signs_law (c u0 r : Nat) (e m0 : Int) (x y : Nat) (w : World) (h1 : -9223372036854775808 ≤ e) (h2 : e ≤ 9223372036854775807) (h3 : -9223372036854775808 ≤ m0) (h4 : m0 ≤ 9223372036854775807) (hx : x < 2 ^ 64) (hy : y < 2 ^ 64) :
    Calls Try.prog 4 #[btv c u0 r e m0, .float .f64 x, .float .f64 y] w (fun e' w' => e' = .returned (.bool true) ∧ Below w.heap.size w w') := by
  go_enter Try.func4, Try.ntmps4
  go_wp2_with fail
  refine (works_walk _).mono ?_; rintro e' w2 ⟨rfl, hb2⟩
  have A := (AtB.mk (c := c) (v := u0) (r := r) (e := e) (n := m0) (B := w.heap.size) (by go_simp) (by go_simp) (by go_simp) (by go_simp) (by go_simp)).keep (by simp) hb2
  have hz : w.heap.size < w2.heap.size := by have := hb2.size; simp at this; omega
  have hB : Below w.heap.size w w2 := ((Below.refl _ _).alloc (Nat.le_refl _) _).trans (hb2.mono (by simp))
  clear hb2
  obtain ⟨c0, c1, c2, c3, c4⟩ := A
  go_wp2_with fail
  obtain ⟨s1, s2⟩ := spd_neg c u0 r e m0 y
  obtain ⟨t1, t2⟩ := bin_neg c u0 r e m0 x
  have ny := neg_fneg y hy
  have nx := neg_fneg x hx
  have ns := neg_fneg _ (spd_lt c u0 r e m0 y)
  refine (speed_walk c u0 r e m0 y _ h1 h2 h3 h4).mono ?_; rintro e' w3 ⟨rfl, b⟩
  have A := (AtB.mk c0 c1 c2 c3 c4).keep hz b; clear c0 c1 c2 c3 c4; obtain ⟨c0, c1, c2, c3, c4⟩ := A; replace hB := hB.trans (b.mono hB.size); replace hz := Nat.lt_of_lt_of_le hz b.size; clear b
  go_wp2_with fail
  refine (speed_walk c u0 r e m0 (fneg y) _ h1 h2 h3 h4).mono ?_; rintro e' w4 ⟨rfl, b⟩
  have A := (AtB.mk c0 c1 c2 c3 c4).keep hz b; clear c0 c1 c2 c3 c4; obtain ⟨c0, c1, c2, c3, c4⟩ := A; replace hB := hB.trans (b.mono hB.size); replace hz := Nat.lt_of_lt_of_le hz b.size; clear b
  rw [s1]
  generalize (spd c u0 r e m0 (fneg y)).1 = S' at *
  clear s1
  generalize (spd c u0 r e m0 y).1 = S at *
  generalize (spd c u0 r e m0 y).2 = E at *
  have T1 := Lib.hid t1
  have T2 := Lib.hid t2
  clear t1 t2
  by_cases hE : E = 0
  · subst hE
    have q : (FloatKind.f64.format.order S' (fneg S) == some Ordering.eq) = true := s2 rfl
    have q' : (FloatKind.f64.format.order S' (fneg S) != some Ordering.eq) = false := by unfold bne; rw [q]; rfl
    clear s2
    go_wp2_with fail
    refine (bin_walk c u0 r e m0 x _ h1 h2 h3 h4).mono ?_; rintro e' w5 ⟨rfl, b⟩
    have A := (AtB.mk c0 c1 c2 c3 c4).keep hz b; clear c0 c1 c2 c3 c4; obtain ⟨c0, c1, c2, c3, c4⟩ := A; replace hB := hB.trans (b.mono hB.size); replace hz := Nat.lt_of_lt_of_le hz b.size; clear b
    go_wp2_with fail
    refine (bin_walk c u0 r e m0 (fneg x) _ h1 h2 h3 h4).mono ?_; rintro e' w6 ⟨rfl, b⟩
    have A := (AtB.mk c0 c1 c2 c3 c4).keep hz b; clear c0 c1 c2 c3 c4; obtain ⟨c0, c1, c2, c3, c4⟩ := A; replace hB := hB.trans (b.mono hB.size); replace hz := Nat.lt_of_lt_of_le hz b.size; clear b
    have t1 := T1.out
    have t2 := T2.out
    clear T1 T2
    rw [t1]
    generalize (bin c u0 r e m0 (fneg x)).1 = Z' at *
    clear t1
    generalize (bin c u0 r e m0 x).1 = Z at *
    generalize (bin c u0 r e m0 x).2 = G at *
    by_cases hG : G = 0
    · subst hG
      obtain ⟨n1, n2, zl, t⟩ := t2 rfl
      clear t2
      have nz := neg_fneg Z zl
      have nm := neg_fneg _ (V.ofInt (n := m0) (by omega)).2.1
      cases q1 : ceq Z' (fneg Z)
      · have q1' : (FloatKind.f64.format.order Z' (fneg Z) == some Ordering.eq) = false := q1
        obtain ⟨ta, tb⟩ : ceq Z (halfW m0) = true ∧ ceq Z' (halfW m0) = true := by
          rcases t with t | t
          · rw [q1] at t; cases t
          · exact t
        have TA := Lib.hid ta
        have TB := Lib.hid tb
        clear t ta tb q1
        go_wp2_with (((with_reducible refine wpList_float (x := ?_) (y := ?_) (X := ?_) (Y := ?_) rfl rfl ?_ ?_ ?_ ?_ ?_ ?_); (· rfl); (rotate_left 4); (· rfl); (· rfl); (· first | assumption | exact Is.refl _); (· first | assumption | exact Is.refl _); intro v n hv hl); have e1 : (FloatKind.f64.format.order Z v == some Ordering.eq) = true := (ceq_is (Is.refl Z) hv).trans TA.out; have e2 : (FloatKind.f64.format.order Z' v == some Ordering.eq) = true := (ceq_is (Is.refl Z') hv).trans TB.out)
        go_ret
        exact ⟨rfl, Below.drew hB⟩
      · have q1' : (FloatKind.f64.format.order Z' (fneg Z) == some Ordering.eq) = true := q1
        clear t q1
        go_wp2_with ((with_reducible refine wpList_float (x := ?_) (y := ?_) (X := ?_) (Y := ?_) rfl rfl ?_ ?_ ?_ ?_ ?_ ?_); (· rfl); (rotate_left 4); (· rfl); (· rfl); (· first | assumption | exact Is.refl _); (· first | assumption | exact Is.refl _); intro v n hv hl)
        go_ret
        exact ⟨rfl, Below.drew hB⟩
    · clear t2
      go_wp2_with ((with_reducible refine wpList_float (x := ?_) (y := ?_) (X := ?_) (Y := ?_) rfl rfl ?_ ?_ ?_ ?_ ?_ ?_); (· rfl); (rotate_left 4); (· rfl); (· rfl); (· first | assumption | exact Is.refl _); (· first | assumption | exact Is.refl _); intro v n hv hl)
      go_ret
      exact ⟨rfl, Below.drew hB⟩
  · clear s2
    go_wp2_with fail
    refine (bin_walk c u0 r e m0 x _ h1 h2 h3 h4).mono ?_; rintro e' w5 ⟨rfl, b⟩
    have A := (AtB.mk c0 c1 c2 c3 c4).keep hz b; clear c0 c1 c2 c3 c4; obtain ⟨c0, c1, c2, c3, c4⟩ := A; replace hB := hB.trans (b.mono hB.size); replace hz := Nat.lt_of_lt_of_le hz b.size; clear b
    go_wp2_with fail
    refine (bin_walk c u0 r e m0 (fneg x) _ h1 h2 h3 h4).mono ?_; rintro e' w6 ⟨rfl, b⟩
    have A := (AtB.mk c0 c1 c2 c3 c4).keep hz b; clear c0 c1 c2 c3 c4; obtain ⟨c0, c1, c2, c3, c4⟩ := A; replace hB := hB.trans (b.mono hB.size); replace hz := Nat.lt_of_lt_of_le hz b.size; clear b
    have t1 := T1.out
    have t2 := T2.out
    clear T1 T2
    rw [t1]
    generalize (bin c u0 r e m0 (fneg x)).1 = Z' at *
    clear t1
    generalize (bin c u0 r e m0 x).1 = Z at *
    generalize (bin c u0 r e m0 x).2 = G at *
    by_cases hG : G = 0
    · subst hG
      obtain ⟨n1, n2, zl, t⟩ := t2 rfl
      clear t2
      have nz := neg_fneg Z zl
      have nm := neg_fneg _ (V.ofInt (n := m0) (by omega)).2.1
      cases q1 : ceq Z' (fneg Z)
      · have q1' : (FloatKind.f64.format.order Z' (fneg Z) == some Ordering.eq) = false := q1
        obtain ⟨ta, tb⟩ : ceq Z (halfW m0) = true ∧ ceq Z' (halfW m0) = true := by
          rcases t with t | t
          · rw [q1] at t; cases t
          · exact t
        have TA := Lib.hid ta
        have TB := Lib.hid tb
        clear t ta tb q1
        go_wp2_with (((with_reducible refine wpList_float (x := ?_) (y := ?_) (X := ?_) (Y := ?_) rfl rfl ?_ ?_ ?_ ?_ ?_ ?_); (· rfl); (rotate_left 4); (· rfl); (· rfl); (· first | assumption | exact Is.refl _); (· first | assumption | exact Is.refl _); intro v n hv hl); have e1 : (FloatKind.f64.format.order Z v == some Ordering.eq) = true := (ceq_is (Is.refl Z) hv).trans TA.out; have e2 : (FloatKind.f64.format.order Z' v == some Ordering.eq) = true := (ceq_is (Is.refl Z') hv).trans TB.out)
        go_ret
        exact ⟨rfl, Below.drew hB⟩
      · have q1' : (FloatKind.f64.format.order Z' (fneg Z) == some Ordering.eq) = true := q1
        clear t q1
        go_wp2_with ((with_reducible refine wpList_float (x := ?_) (y := ?_) (X := ?_) (Y := ?_) rfl rfl ?_ ?_ ?_ ?_ ?_ ?_); (· rfl); (rotate_left 4); (· rfl); (· rfl); (· first | assumption | exact Is.refl _); (· first | assumption | exact Is.refl _); intro v n hv hl)
        go_ret
        exact ⟨rfl, Below.drew hB⟩
    · clear t2
      go_wp2_with ((with_reducible refine wpList_float (x := ?_) (y := ?_) (X := ?_) (Y := ?_) rfl rfl ?_ ?_ ?_ ?_ ?_ ?_); (· rfl); (rotate_left 4); (· rfl); (· rfl); (· first | assumption | exact Is.refl _); (· first | assumption | exact Is.refl _); intro v n hv hl)
      go_ret
      exact ⟨rfl, Below.drew hB⟩
theorem signs_args (W : World) (base : Nat) (args : Array Value) (hsz : args.size = Try.f4.params.size) (hval : ∀ (j : Nat) t v, Try.f4.params[j]? = some t → args[j]? = some v → Value.okWide Try.prog W .any base t v) :
    Calls Try.prog 4 args W (fun e w' => e = .returned (.bool true) ∧ Below W.heap.size W w') := by
  rw [Try.params4] at hval hsz
  obtain ⟨l⟩ := args
  match l, hsz with
  | [v0, v1, v2], _ =>
    obtain ⟨c, v, r, e, n, rfl, g1, g2, g3, b1, b2, b3, b4⟩ := beat_of (hval 0 24 v0 rfl rfl)
    obtain ⟨x1, rfl, hx1⟩ := ok_float (t := 22) Try.underlying22 (hval 1 22 v1 rfl rfl)
    obtain ⟨x2, rfl, hx2⟩ := ok_float (t := 22) Try.underlying22 (hval 2 22 v2 rfl rfl)
    exact signs_law c v r e n x1 x2 W b1 b2 b3 b4 hx1 hx2

set_option maxRecDepth 100000 in
theorem signs_lifted (os : Os) (started : os.Started) (H : Type) (enc : TypeId × Value → H) :
    ReturnsInHanded {} Try.checked os 4 .any (Rows.gateSignsSpec.pre6 enc Try.prog Try.f4 Rows.gateSignsRow.domain false) (Rows.gateSignsSpec.post enc Try.prog Try.f4 false true false false) :=
  law_lifted (C := Try.checked) Try.own started (by kernel_rfl) Try.func4
    (ChangeSpec.witness6 (enc := enc) (C := Try.checked) false ⟨#[], #[.agg #[.float .f64 0, .float .f64 0, .float .f64 0, .int .i64 0, .int .i64 0], .float .f64 0, .float .f64 0], []⟩ 8 (by kernel_rfl) (by kernel_rfl) (by kernel_rfl) (by kernel_rfl))
    Try.laidOut (fun t ht => by have ht2 : t ∈ Try.f4.params.toList := ht; rw [Try.params4] at ht2; simp only [List.mem_cons, List.not_mem_nil, or_false, or_self] at ht2; rcases ht2 with rfl | rfl <;> exact ⟨by kernel_rfl, of_decide_eq_true (by kernel_rfl)⟩)
    rfl Try.underlying4 rfl (fun ds hd => by have hd2 : ds.length = Try.f4.params.size := hd; rw [Try.params4] at hd2; match ds, hd2 with | [d0, d1, d2], _ => exact ⟨rfl, rfl, rfl⟩) signs_args

theorem signs_holds : Rows.GateSignsSaid :=
  OpenClaim.holds_of_wide 4 Try.f4 rfl rfl rfl rfl rfl rfl rfl ⟨rfl, rfl, rfl, rfl, rfl⟩ rfl rfl rfl rfl rfl (by kernel_rfl) Try.func4 (by kernel_rfl)
    (of_decide_eq_true (by kernel_rfl)) (by unfold Func.isWrapper; first | (rw [if_pos (by decide +kernel)]; kernel_rfl) | (rw [if_neg (by decide +kernel)]; exact ⟨rfl, rfl⟩))
    (fun os started H enc _ => signs_lifted os started H enc)
#print axioms signs_holds
end Go.Proofs.Ytakkdkgbkedliaa
