/-
  What is proved: for every beat and every cells, turns and numbers the law GateBack returns true, and its arguments read as before. No conditions.
-/
import Derived.Test.YtakkdkgbkedliaaGaK
import Derived.Test.YtakkdkgbkedliaaRows
set_option autoImplicit false
set_option linter.unusedVariables false
namespace Go.Proofs.Ytakkdkgbkedliaa
open Go.RowKit Go.ChangeShapes Go.WideShapes Go.ChangeAt Lk
theorem far_facts {e far n0 : Int} (h1 : 1 ≤ e) (h2 : e ≤ 16384) (f0 : 0 ≤ far) (f1 : far < 562949953421312) (n0' : 0 ≤ n0) (n1 : n0 ≤ 1048576) :
    wrap64 (n0 * e) = n0 * e ∧ wrap64 (far + n0 * e) = far + n0 * e ∧ 0 ≤ far + n0 * e ∧ far + n0 * e < 2 ^ 50 ∧ (far + n0 * e) % e = far % e ∧ (far + n0 * e) / e = far / e + n0 ∧ wrap64 (far / e + n0) = far / e + n0 ∧ far.tmod e = far % e ∧ (0 ≤ far % e ∧ far % e < e) := by
  have m0 : 0 ≤ n0 * e := Int.mul_nonneg n0' (by omega)
  have m1 : n0 * e ≤ 1048576 * 16384 := Int.mul_le_mul n1 h2 (by omega) (by omega)
  have d0 : 0 ≤ far / e := Int.ediv_nonneg f0 (by omega)
  have d1 : far / e ≤ far := Int.ediv_le_self _ f0
  refine ⟨by unfold wrap64; omega, by unfold wrap64; omega, by omega, by omega, Int.add_mul_emod_self_right _ _ _, Int.add_mul_ediv_right _ _ (by omega), by unfold wrap64; omega, Int.tmod_eq_emod_of_nonneg f0, Int.emod_nonneg _ (by omega), Int.emod_lt_of_pos _ (by omega)⟩
theorem new_beat {w wb wf : World} {B c u r x : Nat} {e n : Int} (A : AtB wb B c u r e n) (hz : B < wb.heap.size) (hB : Below w.heap.size w wb)
    (b : Below (wb.alloc (.cells #[.float .f64 x, .float .f64 u, .float .f64 r, .int .i64 e, .int .i64 n] 24)).heap.size (wb.alloc (.cells #[.float .f64 x, .float .f64 u, .float .f64 r, .int .i64 e, .int .i64 n] 24)) wf) :
    AtB wf B c u r e n ∧ AtB wf wb.heap.size x u r e n ∧ B < wf.heap.size ∧ wb.heap.size < wf.heap.size ∧ Below w.heap.size w wf := by
  have hb0 : Below wb.heap.size wb (wb.alloc (.cells #[.float .f64 x, .float .f64 u, .float .f64 r, .int .i64 e, .int .i64 n] 24)) := (Below.refl _ _).alloc (Nat.le_refl _) _
  have hs : (wb.alloc (.cells #[.float .f64 x, .float .f64 u, .float .f64 r, .int .i64 e, .int .i64 n] 24)).heap.size = wb.heap.size + 1 := by simp
  have hn : (wb.alloc (.cells #[.float .f64 x, .float .f64 u, .float .f64 r, .int .i64 e, .int .i64 n] 24)).heap[wb.heap.size]? = some (.cells #[.float .f64 x, .float .f64 u, .float .f64 r, .int .i64 e, .int .i64 n] 24 (0, 0)) := by
    show (wb.heap.push _)[wb.heap.size]? = _; simp
  have A0 : AtB (wb.alloc (.cells #[.float .f64 x, .float .f64 u, .float .f64 r, .int .i64 e, .int .i64 n] 24)) wb.heap.size x u r e n := ⟨cell_of_heap hn 0, cell_of_heap hn 1, cell_of_heap hn 2, cell_of_heap hn 3, cell_of_heap hn 4⟩
  have s1 := b.size
  have s2 := hB.size
  exact ⟨(A.keep hz hb0).keep (by omega) b, A0.keep (by omega) b, by omega, by omega, (hB.trans (hb0.mono s2)).trans (b.mono (by omega))⟩
def btw (x a b : Nat) : Bool := cge x a && cle x b
theorem between_walk (x a b : Nat) (w : World) : Calls Try.prog 19 #[.float .f64 x, .float .f64 a, .float .f64 b] w (fun e w' => e = .returned (.bool (btw x a b)) ∧ w = w') := by
  have H : Hid (btw x a b = (cge x a && cle x b)) := Lib.hid rfl
  cases h1 : cge x a
  · have e1 : (FloatKind.f64.format.order x a == some Ordering.gt || FloatKind.f64.format.order x a == some Ordering.eq) = false := h1
    go_enter Try.func19, Try.ntmps19
    go_wp2
    go_ret
    exact ⟨ret_bool (by rw [H.out, h1]; rfl), rfl⟩
  · have e1 : (FloatKind.f64.format.order x a == some Ordering.gt || FloatKind.f64.format.order x a == some Ordering.eq) = true := h1
    go_enter Try.func19, Try.ntmps19
    go_wp2
    go_ret
    exact ⟨ret_bool (by rw [H.out, h1]; rfl), rfl⟩
theorem signbit_walk (w : World) : Calls Try.prog 21 #[.float .f64 0] w (fun e w' => e = .returned (.bool false) ∧ w = w') := by
  go_enter Try.func21, Try.ntmps21
  go_wp2
  go_ret
  exact ⟨rfl, rfl⟩
set_option maxRecDepth 100000 in
set_option maxHeartbeats 8000000 in
theorem back_law (c u0 r : Nat) (e m0 : Int) (k t k2 t2 far n0 : Int) (w : World) (h1 : -9223372036854775808 ≤ e) (h2 : e ≤ 9223372036854775807) (h3 : -9223372036854775808 ≤ m0) (h4 : m0 ≤ 9223372036854775807)
    (a1 : -9223372036854775808 ≤ k) (a2 : k ≤ 9223372036854775807) (a3 : -9223372036854775808 ≤ t) (a4 : t ≤ 9223372036854775807) (a5 : -9223372036854775808 ≤ k2) (a6 : k2 ≤ 9223372036854775807) (a7 : -9223372036854775808 ≤ t2) (a8 : t2 ≤ 9223372036854775807)
    (a9 : -9223372036854775808 ≤ far) (a10 : far ≤ 9223372036854775807) (a11 : -9223372036854775808 ≤ n0) (a12 : n0 ≤ 9223372036854775807) :
    Calls Try.prog 6 #[btv c u0 r e m0, .int .i64 k, .int .i64 t, .int .i64 k2, .int .i64 t2, .int .i64 far, .int .i64 n0] w (fun e' w' => e' = .returned (.bool true) ∧ Below w.heap.size w w') := by
  go_enter Try.func6, Try.ntmps6
  go_wp2_with fail
  refine (works_walk _).mono ?_; rintro e' w2 ⟨rfl, hb2⟩
  have A := (AtB.mk (c := c) (v := u0) (r := r) (e := e) (n := m0) (B := w.heap.size) (by go_simp) (by go_simp) (by go_simp) (by go_simp) (by go_simp)).keep (by simp) hb2
  have hz : w.heap.size < w2.heap.size := by have := hb2.size; simp at this; omega
  have hB : Below w.heap.size w w2 := ((Below.refl _ _).alloc (Nat.le_refl _) _).trans (hb2.mono (by simp))
  clear hb2
  obtain ⟨c0, c1, c2, c3, c4⟩ := A
  go_wp2_with fail
  by_cases hC : chk c u0 r e m0 = 0
  · have HC := Lib.hid hC
    clear hC
    refine (check_walk c u0 r e m0 _ h1 h2 h3 h4).mono ?_; rw [HC.out]; rintro e' w3 ⟨rfl, b⟩
    have A := (AtB.mk c0 c1 c2 c3 c4).keep hz b; clear c0 c1 c2 c3 c4; obtain ⟨c0, c1, c2, c3, c4⟩ := A; replace hB := hB.trans (b.mono hB.size); replace hz := Nat.lt_of_lt_of_le hz b.size; clear b
    go_wp2_with fail
    refine (between_walk _ _ _ _).mono ?_; rintro e' w4 ⟨rfl, rfl⟩
    cases hM : btw c 3110860544497550640 6103021453049119613
    · go_wp2_with fail
      refine (works_walk _).mono ?_; rintro e' w5 ⟨rfl, b⟩
      have A := (AtB.mk c0 c1 c2 c3 c4).keep hz b; clear c0 c1 c2 c3 c4; obtain ⟨c0, c1, c2, c3, c4⟩ := A; replace hB := hB.trans (b.mono hB.size); replace hz := Nat.lt_of_lt_of_le hz b.size; clear b
      go_wp2_with fail
      go_ret
      exact ⟨rfl, hB⟩
    · have HM : Mid c := by unfold btw at hM; rw [Bool.and_eq_true] at hM; exact hM
      clear hM
      go_wp2_with fail
      have BB := Lib.hid (back_bin HC.out)
      obtain ⟨_, _, _, ee1, ee2, _⟩ := chk_zero HC.out
      have E2 := Lib.hid ee2
      have he0 : ¬ e = 0 := by omega
      have he1 : ¬ e = -1 := by omega
      have q0 : (FloatKind.f64.format.order 0 0 == some Ordering.eq) = true := by decide +kernel
      have bc : (met c u0 r e m0 k t).2 = 0 → cel c u0 r e m0 (met c u0 r e m0 k t).1 = (k, t, 0) := fun h => back_cell h HM
      have bm : (met c u0 r e m0 k t).2 = 0 → (met c u0 r e m0 k2 t2).2 = 0 → (t < t2 ∨ (t = t2 ∧ k < k2)) → cle (met c u0 r e m0 k t).1 (met c u0 r e m0 k2 t2).1 = true := fun a b => back_mono a b
      have BC := Lib.hid bc
      have BM := Lib.hid bm
      clear bc bm HM
      refine (metres_walk c u0 r e m0 k t _ h1 h2 h3 h4 a1 a2 a3 a4).mono ?_; rintro e' w4 ⟨rfl, b⟩
      have A := (AtB.mk c0 c1 c2 c3 c4).keep hz b; clear c0 c1 c2 c3 c4; obtain ⟨c0, c1, c2, c3, c4⟩ := A; replace hB := hB.trans (b.mono hB.size); replace hz := Nat.lt_of_lt_of_le hz b.size; clear b
      go_wp2_with fail
      refine (metres_walk c u0 r e m0 k2 t2 _ h1 h2 h3 h4 a5 a6 a7 a8).mono ?_; rintro e' w5 ⟨rfl, b⟩
      have A := (AtB.mk c0 c1 c2 c3 c4).keep hz b; clear c0 c1 c2 c3 c4; obtain ⟨c0, c1, c2, c3, c4⟩ := A; replace hB := hB.trans (b.mono hB.size); replace hz := Nat.lt_of_lt_of_le hz b.size; clear b
      have bc := BC.out
      have bm := BM.out
      clear BC BM
      generalize (met c u0 r e m0 k t).1 = M at *
      generalize (met c u0 r e m0 k t).2 = E at *
      generalize (met c u0 r e m0 k2 t2).1 = M2 at *
      generalize (met c u0 r e m0 k2 t2).2 = E' at *
      by_cases hE : E = 0
      · subst hE
        have bc' := bc rfl
        have bm' := Lib.hid (bm rfl)
        clear bc bm
        go_wp2_with fail
        refine (cell_walk c u0 r e m0 M _ h1 h2 h3 h4).mono ?_; rw [bc']; rintro e' w6 ⟨rfl, b⟩
        have A := (AtB.mk c0 c1 c2 c3 c4).keep hz b; clear c0 c1 c2 c3 c4; obtain ⟨c0, c1, c2, c3, c4⟩ := A; replace hB := hB.trans (b.mono hB.size); replace hz := Nat.lt_of_lt_of_le hz b.size; clear b
        by_cases hE2 : E' = 0
        · subst hE2
          have bm2 := Lib.hid (bm'.out rfl)
          clear bm'
          by_cases o1 : t < t2
          · have hc : (FloatKind.f64.format.order M M2 == some Ordering.lt || FloatKind.f64.format.order M M2 == some Ordering.eq) = true := bm2.out (.inl o1)
            go_wp2_with fail
            refine (bin_walk c u0 r e m0 0 _ h1 h2 h3 h4).mono ?_; rintro e' wb ⟨rfl, b⟩
            have A := (AtB.mk c0 c1 c2 c3 c4).keep hz b; clear c0 c1 c2 c3 c4; obtain ⟨c0, c1, c2, c3, c4⟩ := A; replace hB := hB.trans (b.mono hB.size); replace hz := Nat.lt_of_lt_of_le hz b.size; clear b
            rcases BB.out with hb | hb
            · rw [hb]
              by_cases g1 : far < 0
              · go_wp2_with fail
                refine (signbit_walk _).mono ?_; rintro e' wsb ⟨rfl, rfl⟩
                go_wp2_with fail
                go_ret
                exact ⟨rfl, hB⟩
              · by_cases g2 : 562949953421312 ≤ far
                · go_wp2_with fail
                  refine (signbit_walk _).mono ?_; rintro e' wsb ⟨rfl, rfl⟩
                  go_wp2_with fail
                  go_ret
                  exact ⟨rfl, hB⟩
                · by_cases g3 : n0 < 0
                  · go_wp2_with fail
                    refine (signbit_walk _).mono ?_; rintro e' wsb ⟨rfl, rfl⟩
                    go_wp2_with fail
                    go_ret
                    exact ⟨rfl, hB⟩
                  · by_cases g4 : 1048576 < n0
                    · go_wp2_with fail
                      refine (signbit_walk _).mono ?_; rintro e' wsb ⟨rfl, rfl⟩
                      go_wp2_with fail
                      go_ret
                      exact ⟨rfl, hB⟩
                    · obtain ⟨p1, p2, p3, p4, p5, p6, p7, p8, p9⟩ := far_facts (e := e) (by omega : 1 ≤ e) E2.out (by omega : 0 ≤ far) (by omega) (by omega : 0 ≤ n0) (by omega)
                      go_wp2_with fail
                      refine (signbit_walk _).mono ?_; rintro e' wsb ⟨rfl, rfl⟩
                      go_wp2_with fail
                      refine (cell_walk _ _ _ _ _ _ _ h1 h2 h3 h4).mono ?_; rw [back_far HC.out (by omega) (by omega)]; rintro e' wf ⟨rfl, b⟩
                      obtain ⟨⟨x0, x1, x2, x3, x4⟩, ⟨d0, d1, d2, d3, d4⟩, hz', hzd, hB'⟩ := new_beat ⟨c0, c1, c2, c3, c4⟩ hz hB b; clear c0 c1 c2 c3 c4 hz hB b; have c0 := x0; have c1 := x1; have c2 := x2; have c3 := x3; have c4 := x4; have hz := hz'; have hB := hB'; clear x0 x1 x2 x3 x4 hz' hB'
                      go_wp2_with fail
                      refine (cell_walk _ _ _ _ _ _ _ h1 h2 h3 h4).mono ?_; rw [back_far HC.out p3 p4]; rintro e' wg ⟨rfl, b⟩
                      have A := (AtB.mk c0 c1 c2 c3 c4).keep hz b; clear c0 c1 c2 c3 c4; obtain ⟨c0, c1, c2, c3, c4⟩ := A; replace hB := hB.trans (b.mono hB.size); replace hz := Nat.lt_of_lt_of_le hz b.size; clear b
                      go_wp2_with fail
                      go_ret
                      exact ⟨rfl, hB⟩
            · rw [hb]
              by_cases g1 : far < 0
              · go_wp2_with fail
                go_ret
                exact ⟨rfl, hB⟩
              · by_cases g2 : 562949953421312 ≤ far
                · go_wp2_with fail
                  go_ret
                  exact ⟨rfl, hB⟩
                · by_cases g3 : n0 < 0
                  · go_wp2_with fail
                    go_ret
                    exact ⟨rfl, hB⟩
                  · by_cases g4 : 1048576 < n0
                    · go_wp2_with fail
                      go_ret
                      exact ⟨rfl, hB⟩
                    · obtain ⟨p1, p2, p3, p4, p5, p6, p7, p8, p9⟩ := far_facts (e := e) (by omega : 1 ≤ e) E2.out (by omega : 0 ≤ far) (by omega) (by omega : 0 ≤ n0) (by omega)
                      go_wp2_with fail
                      refine (cell_walk _ _ _ _ _ _ _ h1 h2 h3 h4).mono ?_; rw [back_far HC.out (by omega) (by omega)]; rintro e' wf ⟨rfl, b⟩
                      obtain ⟨⟨x0, x1, x2, x3, x4⟩, ⟨d0, d1, d2, d3, d4⟩, hz', hzd, hB'⟩ := new_beat ⟨c0, c1, c2, c3, c4⟩ hz hB b; clear c0 c1 c2 c3 c4 hz hB b; have c0 := x0; have c1 := x1; have c2 := x2; have c3 := x3; have c4 := x4; have hz := hz'; have hB := hB'; clear x0 x1 x2 x3 x4 hz' hB'
                      go_wp2_with fail
                      refine (cell_walk _ _ _ _ _ _ _ h1 h2 h3 h4).mono ?_; rw [back_far HC.out p3 p4]; rintro e' wg ⟨rfl, b⟩
                      have A := (AtB.mk c0 c1 c2 c3 c4).keep hz b; clear c0 c1 c2 c3 c4; obtain ⟨c0, c1, c2, c3, c4⟩ := A; replace hB := hB.trans (b.mono hB.size); replace hz := Nat.lt_of_lt_of_le hz b.size; clear b
                      go_wp2_with fail
                      go_ret
                      exact ⟨rfl, hB⟩
          · by_cases o2 : t = t2
            · by_cases o3 : k < k2
              · have hc : (FloatKind.f64.format.order M M2 == some Ordering.lt || FloatKind.f64.format.order M M2 == some Ordering.eq) = true := bm2.out (.inr ⟨o2, o3⟩)
                go_wp2_with fail
                refine (bin_walk c u0 r e m0 0 _ h1 h2 h3 h4).mono ?_; rintro e' wb ⟨rfl, b⟩
                have A := (AtB.mk c0 c1 c2 c3 c4).keep hz b; clear c0 c1 c2 c3 c4; obtain ⟨c0, c1, c2, c3, c4⟩ := A; replace hB := hB.trans (b.mono hB.size); replace hz := Nat.lt_of_lt_of_le hz b.size; clear b
                rcases BB.out with hb | hb
                · rw [hb]
                  by_cases g1 : far < 0
                  · go_wp2_with fail
                    refine (signbit_walk _).mono ?_; rintro e' wsb ⟨rfl, rfl⟩
                    go_wp2_with fail
                    go_ret
                    exact ⟨rfl, hB⟩
                  · by_cases g2 : 562949953421312 ≤ far
                    · go_wp2_with fail
                      refine (signbit_walk _).mono ?_; rintro e' wsb ⟨rfl, rfl⟩
                      go_wp2_with fail
                      go_ret
                      exact ⟨rfl, hB⟩
                    · by_cases g3 : n0 < 0
                      · go_wp2_with fail
                        refine (signbit_walk _).mono ?_; rintro e' wsb ⟨rfl, rfl⟩
                        go_wp2_with fail
                        go_ret
                        exact ⟨rfl, hB⟩
                      · by_cases g4 : 1048576 < n0
                        · go_wp2_with fail
                          refine (signbit_walk _).mono ?_; rintro e' wsb ⟨rfl, rfl⟩
                          go_wp2_with fail
                          go_ret
                          exact ⟨rfl, hB⟩
                        · obtain ⟨p1, p2, p3, p4, p5, p6, p7, p8, p9⟩ := far_facts (e := e) (by omega : 1 ≤ e) E2.out (by omega : 0 ≤ far) (by omega) (by omega : 0 ≤ n0) (by omega)
                          go_wp2_with fail
                          refine (signbit_walk _).mono ?_; rintro e' wsb ⟨rfl, rfl⟩
                          go_wp2_with fail
                          refine (cell_walk _ _ _ _ _ _ _ h1 h2 h3 h4).mono ?_; rw [back_far HC.out (by omega) (by omega)]; rintro e' wf ⟨rfl, b⟩
                          obtain ⟨⟨x0, x1, x2, x3, x4⟩, ⟨d0, d1, d2, d3, d4⟩, hz', hzd, hB'⟩ := new_beat ⟨c0, c1, c2, c3, c4⟩ hz hB b; clear c0 c1 c2 c3 c4 hz hB b; have c0 := x0; have c1 := x1; have c2 := x2; have c3 := x3; have c4 := x4; have hz := hz'; have hB := hB'; clear x0 x1 x2 x3 x4 hz' hB'
                          go_wp2_with fail
                          refine (cell_walk _ _ _ _ _ _ _ h1 h2 h3 h4).mono ?_; rw [back_far HC.out p3 p4]; rintro e' wg ⟨rfl, b⟩
                          have A := (AtB.mk c0 c1 c2 c3 c4).keep hz b; clear c0 c1 c2 c3 c4; obtain ⟨c0, c1, c2, c3, c4⟩ := A; replace hB := hB.trans (b.mono hB.size); replace hz := Nat.lt_of_lt_of_le hz b.size; clear b
                          go_wp2_with fail
                          go_ret
                          exact ⟨rfl, hB⟩
                · rw [hb]
                  by_cases g1 : far < 0
                  · go_wp2_with fail
                    go_ret
                    exact ⟨rfl, hB⟩
                  · by_cases g2 : 562949953421312 ≤ far
                    · go_wp2_with fail
                      go_ret
                      exact ⟨rfl, hB⟩
                    · by_cases g3 : n0 < 0
                      · go_wp2_with fail
                        go_ret
                        exact ⟨rfl, hB⟩
                      · by_cases g4 : 1048576 < n0
                        · go_wp2_with fail
                          go_ret
                          exact ⟨rfl, hB⟩
                        · obtain ⟨p1, p2, p3, p4, p5, p6, p7, p8, p9⟩ := far_facts (e := e) (by omega : 1 ≤ e) E2.out (by omega : 0 ≤ far) (by omega) (by omega : 0 ≤ n0) (by omega)
                          go_wp2_with fail
                          refine (cell_walk _ _ _ _ _ _ _ h1 h2 h3 h4).mono ?_; rw [back_far HC.out (by omega) (by omega)]; rintro e' wf ⟨rfl, b⟩
                          obtain ⟨⟨x0, x1, x2, x3, x4⟩, ⟨d0, d1, d2, d3, d4⟩, hz', hzd, hB'⟩ := new_beat ⟨c0, c1, c2, c3, c4⟩ hz hB b; clear c0 c1 c2 c3 c4 hz hB b; have c0 := x0; have c1 := x1; have c2 := x2; have c3 := x3; have c4 := x4; have hz := hz'; have hB := hB'; clear x0 x1 x2 x3 x4 hz' hB'
                          go_wp2_with fail
                          refine (cell_walk _ _ _ _ _ _ _ h1 h2 h3 h4).mono ?_; rw [back_far HC.out p3 p4]; rintro e' wg ⟨rfl, b⟩
                          have A := (AtB.mk c0 c1 c2 c3 c4).keep hz b; clear c0 c1 c2 c3 c4; obtain ⟨c0, c1, c2, c3, c4⟩ := A; replace hB := hB.trans (b.mono hB.size); replace hz := Nat.lt_of_lt_of_le hz b.size; clear b
                          go_wp2_with fail
                          go_ret
                          exact ⟨rfl, hB⟩
              · go_wp2_with fail
                refine (bin_walk c u0 r e m0 0 _ h1 h2 h3 h4).mono ?_; rintro e' wb ⟨rfl, b⟩
                have A := (AtB.mk c0 c1 c2 c3 c4).keep hz b; clear c0 c1 c2 c3 c4; obtain ⟨c0, c1, c2, c3, c4⟩ := A; replace hB := hB.trans (b.mono hB.size); replace hz := Nat.lt_of_lt_of_le hz b.size; clear b
                rcases BB.out with hb | hb
                · rw [hb]
                  by_cases g1 : far < 0
                  · go_wp2_with fail
                    refine (signbit_walk _).mono ?_; rintro e' wsb ⟨rfl, rfl⟩
                    go_wp2_with fail
                    go_ret
                    exact ⟨rfl, hB⟩
                  · by_cases g2 : 562949953421312 ≤ far
                    · go_wp2_with fail
                      refine (signbit_walk _).mono ?_; rintro e' wsb ⟨rfl, rfl⟩
                      go_wp2_with fail
                      go_ret
                      exact ⟨rfl, hB⟩
                    · by_cases g3 : n0 < 0
                      · go_wp2_with fail
                        refine (signbit_walk _).mono ?_; rintro e' wsb ⟨rfl, rfl⟩
                        go_wp2_with fail
                        go_ret
                        exact ⟨rfl, hB⟩
                      · by_cases g4 : 1048576 < n0
                        · go_wp2_with fail
                          refine (signbit_walk _).mono ?_; rintro e' wsb ⟨rfl, rfl⟩
                          go_wp2_with fail
                          go_ret
                          exact ⟨rfl, hB⟩
                        · obtain ⟨p1, p2, p3, p4, p5, p6, p7, p8, p9⟩ := far_facts (e := e) (by omega : 1 ≤ e) E2.out (by omega : 0 ≤ far) (by omega) (by omega : 0 ≤ n0) (by omega)
                          go_wp2_with fail
                          refine (signbit_walk _).mono ?_; rintro e' wsb ⟨rfl, rfl⟩
                          go_wp2_with fail
                          refine (cell_walk _ _ _ _ _ _ _ h1 h2 h3 h4).mono ?_; rw [back_far HC.out (by omega) (by omega)]; rintro e' wf ⟨rfl, b⟩
                          obtain ⟨⟨x0, x1, x2, x3, x4⟩, ⟨d0, d1, d2, d3, d4⟩, hz', hzd, hB'⟩ := new_beat ⟨c0, c1, c2, c3, c4⟩ hz hB b; clear c0 c1 c2 c3 c4 hz hB b; have c0 := x0; have c1 := x1; have c2 := x2; have c3 := x3; have c4 := x4; have hz := hz'; have hB := hB'; clear x0 x1 x2 x3 x4 hz' hB'
                          go_wp2_with fail
                          refine (cell_walk _ _ _ _ _ _ _ h1 h2 h3 h4).mono ?_; rw [back_far HC.out p3 p4]; rintro e' wg ⟨rfl, b⟩
                          have A := (AtB.mk c0 c1 c2 c3 c4).keep hz b; clear c0 c1 c2 c3 c4; obtain ⟨c0, c1, c2, c3, c4⟩ := A; replace hB := hB.trans (b.mono hB.size); replace hz := Nat.lt_of_lt_of_le hz b.size; clear b
                          go_wp2_with fail
                          go_ret
                          exact ⟨rfl, hB⟩
                · rw [hb]
                  by_cases g1 : far < 0
                  · go_wp2_with fail
                    go_ret
                    exact ⟨rfl, hB⟩
                  · by_cases g2 : 562949953421312 ≤ far
                    · go_wp2_with fail
                      go_ret
                      exact ⟨rfl, hB⟩
                    · by_cases g3 : n0 < 0
                      · go_wp2_with fail
                        go_ret
                        exact ⟨rfl, hB⟩
                      · by_cases g4 : 1048576 < n0
                        · go_wp2_with fail
                          go_ret
                          exact ⟨rfl, hB⟩
                        · obtain ⟨p1, p2, p3, p4, p5, p6, p7, p8, p9⟩ := far_facts (e := e) (by omega : 1 ≤ e) E2.out (by omega : 0 ≤ far) (by omega) (by omega : 0 ≤ n0) (by omega)
                          go_wp2_with fail
                          refine (cell_walk _ _ _ _ _ _ _ h1 h2 h3 h4).mono ?_; rw [back_far HC.out (by omega) (by omega)]; rintro e' wf ⟨rfl, b⟩
                          obtain ⟨⟨x0, x1, x2, x3, x4⟩, ⟨d0, d1, d2, d3, d4⟩, hz', hzd, hB'⟩ := new_beat ⟨c0, c1, c2, c3, c4⟩ hz hB b; clear c0 c1 c2 c3 c4 hz hB b; have c0 := x0; have c1 := x1; have c2 := x2; have c3 := x3; have c4 := x4; have hz := hz'; have hB := hB'; clear x0 x1 x2 x3 x4 hz' hB'
                          go_wp2_with fail
                          refine (cell_walk _ _ _ _ _ _ _ h1 h2 h3 h4).mono ?_; rw [back_far HC.out p3 p4]; rintro e' wg ⟨rfl, b⟩
                          have A := (AtB.mk c0 c1 c2 c3 c4).keep hz b; clear c0 c1 c2 c3 c4; obtain ⟨c0, c1, c2, c3, c4⟩ := A; replace hB := hB.trans (b.mono hB.size); replace hz := Nat.lt_of_lt_of_le hz b.size; clear b
                          go_wp2_with fail
                          go_ret
                          exact ⟨rfl, hB⟩
            · go_wp2_with fail
              refine (bin_walk c u0 r e m0 0 _ h1 h2 h3 h4).mono ?_; rintro e' wb ⟨rfl, b⟩
              have A := (AtB.mk c0 c1 c2 c3 c4).keep hz b; clear c0 c1 c2 c3 c4; obtain ⟨c0, c1, c2, c3, c4⟩ := A; replace hB := hB.trans (b.mono hB.size); replace hz := Nat.lt_of_lt_of_le hz b.size; clear b
              rcases BB.out with hb | hb
              · rw [hb]
                by_cases g1 : far < 0
                · go_wp2_with fail
                  refine (signbit_walk _).mono ?_; rintro e' wsb ⟨rfl, rfl⟩
                  go_wp2_with fail
                  go_ret
                  exact ⟨rfl, hB⟩
                · by_cases g2 : 562949953421312 ≤ far
                  · go_wp2_with fail
                    refine (signbit_walk _).mono ?_; rintro e' wsb ⟨rfl, rfl⟩
                    go_wp2_with fail
                    go_ret
                    exact ⟨rfl, hB⟩
                  · by_cases g3 : n0 < 0
                    · go_wp2_with fail
                      refine (signbit_walk _).mono ?_; rintro e' wsb ⟨rfl, rfl⟩
                      go_wp2_with fail
                      go_ret
                      exact ⟨rfl, hB⟩
                    · by_cases g4 : 1048576 < n0
                      · go_wp2_with fail
                        refine (signbit_walk _).mono ?_; rintro e' wsb ⟨rfl, rfl⟩
                        go_wp2_with fail
                        go_ret
                        exact ⟨rfl, hB⟩
                      · obtain ⟨p1, p2, p3, p4, p5, p6, p7, p8, p9⟩ := far_facts (e := e) (by omega : 1 ≤ e) E2.out (by omega : 0 ≤ far) (by omega) (by omega : 0 ≤ n0) (by omega)
                        go_wp2_with fail
                        refine (signbit_walk _).mono ?_; rintro e' wsb ⟨rfl, rfl⟩
                        go_wp2_with fail
                        refine (cell_walk _ _ _ _ _ _ _ h1 h2 h3 h4).mono ?_; rw [back_far HC.out (by omega) (by omega)]; rintro e' wf ⟨rfl, b⟩
                        obtain ⟨⟨x0, x1, x2, x3, x4⟩, ⟨d0, d1, d2, d3, d4⟩, hz', hzd, hB'⟩ := new_beat ⟨c0, c1, c2, c3, c4⟩ hz hB b; clear c0 c1 c2 c3 c4 hz hB b; have c0 := x0; have c1 := x1; have c2 := x2; have c3 := x3; have c4 := x4; have hz := hz'; have hB := hB'; clear x0 x1 x2 x3 x4 hz' hB'
                        go_wp2_with fail
                        refine (cell_walk _ _ _ _ _ _ _ h1 h2 h3 h4).mono ?_; rw [back_far HC.out p3 p4]; rintro e' wg ⟨rfl, b⟩
                        have A := (AtB.mk c0 c1 c2 c3 c4).keep hz b; clear c0 c1 c2 c3 c4; obtain ⟨c0, c1, c2, c3, c4⟩ := A; replace hB := hB.trans (b.mono hB.size); replace hz := Nat.lt_of_lt_of_le hz b.size; clear b
                        go_wp2_with fail
                        go_ret
                        exact ⟨rfl, hB⟩
              · rw [hb]
                by_cases g1 : far < 0
                · go_wp2_with fail
                  go_ret
                  exact ⟨rfl, hB⟩
                · by_cases g2 : 562949953421312 ≤ far
                  · go_wp2_with fail
                    go_ret
                    exact ⟨rfl, hB⟩
                  · by_cases g3 : n0 < 0
                    · go_wp2_with fail
                      go_ret
                      exact ⟨rfl, hB⟩
                    · by_cases g4 : 1048576 < n0
                      · go_wp2_with fail
                        go_ret
                        exact ⟨rfl, hB⟩
                      · obtain ⟨p1, p2, p3, p4, p5, p6, p7, p8, p9⟩ := far_facts (e := e) (by omega : 1 ≤ e) E2.out (by omega : 0 ≤ far) (by omega) (by omega : 0 ≤ n0) (by omega)
                        go_wp2_with fail
                        refine (cell_walk _ _ _ _ _ _ _ h1 h2 h3 h4).mono ?_; rw [back_far HC.out (by omega) (by omega)]; rintro e' wf ⟨rfl, b⟩
                        obtain ⟨⟨x0, x1, x2, x3, x4⟩, ⟨d0, d1, d2, d3, d4⟩, hz', hzd, hB'⟩ := new_beat ⟨c0, c1, c2, c3, c4⟩ hz hB b; clear c0 c1 c2 c3 c4 hz hB b; have c0 := x0; have c1 := x1; have c2 := x2; have c3 := x3; have c4 := x4; have hz := hz'; have hB := hB'; clear x0 x1 x2 x3 x4 hz' hB'
                        go_wp2_with fail
                        refine (cell_walk _ _ _ _ _ _ _ h1 h2 h3 h4).mono ?_; rw [back_far HC.out p3 p4]; rintro e' wg ⟨rfl, b⟩
                        have A := (AtB.mk c0 c1 c2 c3 c4).keep hz b; clear c0 c1 c2 c3 c4; obtain ⟨c0, c1, c2, c3, c4⟩ := A; replace hB := hB.trans (b.mono hB.size); replace hz := Nat.lt_of_lt_of_le hz b.size; clear b
                        go_wp2_with fail
                        go_ret
                        exact ⟨rfl, hB⟩
        · go_wp2_with fail
          refine (bin_walk c u0 r e m0 0 _ h1 h2 h3 h4).mono ?_; rintro e' wb ⟨rfl, b⟩
          have A := (AtB.mk c0 c1 c2 c3 c4).keep hz b; clear c0 c1 c2 c3 c4; obtain ⟨c0, c1, c2, c3, c4⟩ := A; replace hB := hB.trans (b.mono hB.size); replace hz := Nat.lt_of_lt_of_le hz b.size; clear b
          rcases BB.out with hb | hb
          · rw [hb]
            by_cases g1 : far < 0
            · go_wp2_with fail
              refine (signbit_walk _).mono ?_; rintro e' wsb ⟨rfl, rfl⟩
              go_wp2_with fail
              go_ret
              exact ⟨rfl, hB⟩
            · by_cases g2 : 562949953421312 ≤ far
              · go_wp2_with fail
                refine (signbit_walk _).mono ?_; rintro e' wsb ⟨rfl, rfl⟩
                go_wp2_with fail
                go_ret
                exact ⟨rfl, hB⟩
              · by_cases g3 : n0 < 0
                · go_wp2_with fail
                  refine (signbit_walk _).mono ?_; rintro e' wsb ⟨rfl, rfl⟩
                  go_wp2_with fail
                  go_ret
                  exact ⟨rfl, hB⟩
                · by_cases g4 : 1048576 < n0
                  · go_wp2_with fail
                    refine (signbit_walk _).mono ?_; rintro e' wsb ⟨rfl, rfl⟩
                    go_wp2_with fail
                    go_ret
                    exact ⟨rfl, hB⟩
                  · obtain ⟨p1, p2, p3, p4, p5, p6, p7, p8, p9⟩ := far_facts (e := e) (by omega : 1 ≤ e) E2.out (by omega : 0 ≤ far) (by omega) (by omega : 0 ≤ n0) (by omega)
                    go_wp2_with fail
                    refine (signbit_walk _).mono ?_; rintro e' wsb ⟨rfl, rfl⟩
                    go_wp2_with fail
                    refine (cell_walk _ _ _ _ _ _ _ h1 h2 h3 h4).mono ?_; rw [back_far HC.out (by omega) (by omega)]; rintro e' wf ⟨rfl, b⟩
                    obtain ⟨⟨x0, x1, x2, x3, x4⟩, ⟨d0, d1, d2, d3, d4⟩, hz', hzd, hB'⟩ := new_beat ⟨c0, c1, c2, c3, c4⟩ hz hB b; clear c0 c1 c2 c3 c4 hz hB b; have c0 := x0; have c1 := x1; have c2 := x2; have c3 := x3; have c4 := x4; have hz := hz'; have hB := hB'; clear x0 x1 x2 x3 x4 hz' hB'
                    go_wp2_with fail
                    refine (cell_walk _ _ _ _ _ _ _ h1 h2 h3 h4).mono ?_; rw [back_far HC.out p3 p4]; rintro e' wg ⟨rfl, b⟩
                    have A := (AtB.mk c0 c1 c2 c3 c4).keep hz b; clear c0 c1 c2 c3 c4; obtain ⟨c0, c1, c2, c3, c4⟩ := A; replace hB := hB.trans (b.mono hB.size); replace hz := Nat.lt_of_lt_of_le hz b.size; clear b
                    go_wp2_with fail
                    go_ret
                    exact ⟨rfl, hB⟩
          · rw [hb]
            by_cases g1 : far < 0
            · go_wp2_with fail
              go_ret
              exact ⟨rfl, hB⟩
            · by_cases g2 : 562949953421312 ≤ far
              · go_wp2_with fail
                go_ret
                exact ⟨rfl, hB⟩
              · by_cases g3 : n0 < 0
                · go_wp2_with fail
                  go_ret
                  exact ⟨rfl, hB⟩
                · by_cases g4 : 1048576 < n0
                  · go_wp2_with fail
                    go_ret
                    exact ⟨rfl, hB⟩
                  · obtain ⟨p1, p2, p3, p4, p5, p6, p7, p8, p9⟩ := far_facts (e := e) (by omega : 1 ≤ e) E2.out (by omega : 0 ≤ far) (by omega) (by omega : 0 ≤ n0) (by omega)
                    go_wp2_with fail
                    refine (cell_walk _ _ _ _ _ _ _ h1 h2 h3 h4).mono ?_; rw [back_far HC.out (by omega) (by omega)]; rintro e' wf ⟨rfl, b⟩
                    obtain ⟨⟨x0, x1, x2, x3, x4⟩, ⟨d0, d1, d2, d3, d4⟩, hz', hzd, hB'⟩ := new_beat ⟨c0, c1, c2, c3, c4⟩ hz hB b; clear c0 c1 c2 c3 c4 hz hB b; have c0 := x0; have c1 := x1; have c2 := x2; have c3 := x3; have c4 := x4; have hz := hz'; have hB := hB'; clear x0 x1 x2 x3 x4 hz' hB'
                    go_wp2_with fail
                    refine (cell_walk _ _ _ _ _ _ _ h1 h2 h3 h4).mono ?_; rw [back_far HC.out p3 p4]; rintro e' wg ⟨rfl, b⟩
                    have A := (AtB.mk c0 c1 c2 c3 c4).keep hz b; clear c0 c1 c2 c3 c4; obtain ⟨c0, c1, c2, c3, c4⟩ := A; replace hB := hB.trans (b.mono hB.size); replace hz := Nat.lt_of_lt_of_le hz b.size; clear b
                    go_wp2_with fail
                    go_ret
                    exact ⟨rfl, hB⟩
      · clear bc bm
        go_wp2_with fail
        refine (bin_walk c u0 r e m0 0 _ h1 h2 h3 h4).mono ?_; rintro e' wb ⟨rfl, b⟩
        have A := (AtB.mk c0 c1 c2 c3 c4).keep hz b; clear c0 c1 c2 c3 c4; obtain ⟨c0, c1, c2, c3, c4⟩ := A; replace hB := hB.trans (b.mono hB.size); replace hz := Nat.lt_of_lt_of_le hz b.size; clear b
        rcases BB.out with hb | hb
        · rw [hb]
          by_cases g1 : far < 0
          · go_wp2_with fail
            refine (signbit_walk _).mono ?_; rintro e' wsb ⟨rfl, rfl⟩
            go_wp2_with fail
            go_ret
            exact ⟨rfl, hB⟩
          · by_cases g2 : 562949953421312 ≤ far
            · go_wp2_with fail
              refine (signbit_walk _).mono ?_; rintro e' wsb ⟨rfl, rfl⟩
              go_wp2_with fail
              go_ret
              exact ⟨rfl, hB⟩
            · by_cases g3 : n0 < 0
              · go_wp2_with fail
                refine (signbit_walk _).mono ?_; rintro e' wsb ⟨rfl, rfl⟩
                go_wp2_with fail
                go_ret
                exact ⟨rfl, hB⟩
              · by_cases g4 : 1048576 < n0
                · go_wp2_with fail
                  refine (signbit_walk _).mono ?_; rintro e' wsb ⟨rfl, rfl⟩
                  go_wp2_with fail
                  go_ret
                  exact ⟨rfl, hB⟩
                · obtain ⟨p1, p2, p3, p4, p5, p6, p7, p8, p9⟩ := far_facts (e := e) (by omega : 1 ≤ e) E2.out (by omega : 0 ≤ far) (by omega) (by omega : 0 ≤ n0) (by omega)
                  go_wp2_with fail
                  refine (signbit_walk _).mono ?_; rintro e' wsb ⟨rfl, rfl⟩
                  go_wp2_with fail
                  refine (cell_walk _ _ _ _ _ _ _ h1 h2 h3 h4).mono ?_; rw [back_far HC.out (by omega) (by omega)]; rintro e' wf ⟨rfl, b⟩
                  obtain ⟨⟨x0, x1, x2, x3, x4⟩, ⟨d0, d1, d2, d3, d4⟩, hz', hzd, hB'⟩ := new_beat ⟨c0, c1, c2, c3, c4⟩ hz hB b; clear c0 c1 c2 c3 c4 hz hB b; have c0 := x0; have c1 := x1; have c2 := x2; have c3 := x3; have c4 := x4; have hz := hz'; have hB := hB'; clear x0 x1 x2 x3 x4 hz' hB'
                  go_wp2_with fail
                  refine (cell_walk _ _ _ _ _ _ _ h1 h2 h3 h4).mono ?_; rw [back_far HC.out p3 p4]; rintro e' wg ⟨rfl, b⟩
                  have A := (AtB.mk c0 c1 c2 c3 c4).keep hz b; clear c0 c1 c2 c3 c4; obtain ⟨c0, c1, c2, c3, c4⟩ := A; replace hB := hB.trans (b.mono hB.size); replace hz := Nat.lt_of_lt_of_le hz b.size; clear b
                  go_wp2_with fail
                  go_ret
                  exact ⟨rfl, hB⟩
        · rw [hb]
          by_cases g1 : far < 0
          · go_wp2_with fail
            go_ret
            exact ⟨rfl, hB⟩
          · by_cases g2 : 562949953421312 ≤ far
            · go_wp2_with fail
              go_ret
              exact ⟨rfl, hB⟩
            · by_cases g3 : n0 < 0
              · go_wp2_with fail
                go_ret
                exact ⟨rfl, hB⟩
              · by_cases g4 : 1048576 < n0
                · go_wp2_with fail
                  go_ret
                  exact ⟨rfl, hB⟩
                · obtain ⟨p1, p2, p3, p4, p5, p6, p7, p8, p9⟩ := far_facts (e := e) (by omega : 1 ≤ e) E2.out (by omega : 0 ≤ far) (by omega) (by omega : 0 ≤ n0) (by omega)
                  go_wp2_with fail
                  refine (cell_walk _ _ _ _ _ _ _ h1 h2 h3 h4).mono ?_; rw [back_far HC.out (by omega) (by omega)]; rintro e' wf ⟨rfl, b⟩
                  obtain ⟨⟨x0, x1, x2, x3, x4⟩, ⟨d0, d1, d2, d3, d4⟩, hz', hzd, hB'⟩ := new_beat ⟨c0, c1, c2, c3, c4⟩ hz hB b; clear c0 c1 c2 c3 c4 hz hB b; have c0 := x0; have c1 := x1; have c2 := x2; have c3 := x3; have c4 := x4; have hz := hz'; have hB := hB'; clear x0 x1 x2 x3 x4 hz' hB'
                  go_wp2_with fail
                  refine (cell_walk _ _ _ _ _ _ _ h1 h2 h3 h4).mono ?_; rw [back_far HC.out p3 p4]; rintro e' wg ⟨rfl, b⟩
                  have A := (AtB.mk c0 c1 c2 c3 c4).keep hz b; clear c0 c1 c2 c3 c4; obtain ⟨c0, c1, c2, c3, c4⟩ := A; replace hB := hB.trans (b.mono hB.size); replace hz := Nat.lt_of_lt_of_le hz b.size; clear b
                  go_wp2_with fail
                  go_ret
                  exact ⟨rfl, hB⟩
  · refine (check_walk c u0 r e m0 _ h1 h2 h3 h4).mono ?_; rintro e' w3 ⟨rfl, b⟩
    have A := (AtB.mk c0 c1 c2 c3 c4).keep hz b; clear c0 c1 c2 c3 c4; obtain ⟨c0, c1, c2, c3, c4⟩ := A; replace hB := hB.trans (b.mono hB.size); replace hz := Nat.lt_of_lt_of_le hz b.size; clear b
    go_wp2_with fail
    refine (works_walk _).mono ?_; rintro e' w4 ⟨rfl, b⟩
    have A := (AtB.mk c0 c1 c2 c3 c4).keep hz b; clear c0 c1 c2 c3 c4; obtain ⟨c0, c1, c2, c3, c4⟩ := A; replace hB := hB.trans (b.mono hB.size); replace hz := Nat.lt_of_lt_of_le hz b.size; clear b
    go_wp2_with fail
    go_ret
    exact ⟨rfl, hB⟩
theorem back_args (W : World) (base : Nat) (args : Array Value) (hsz : args.size = Try.f6.params.size) (hval : ∀ (j : Nat) t v, Try.f6.params[j]? = some t → args[j]? = some v → Value.okWide Try.prog W .any base t v) :
    Calls Try.prog 6 args W (fun e w' => e = .returned (.bool true) ∧ Below W.heap.size W w') := by
  rw [Try.params6] at hval hsz
  obtain ⟨l⟩ := args
  match l, hsz with
  | [v0, v1, v2, v3, v4, v5, v6], _ =>
    obtain ⟨c, v, r, e, n, rfl, g1, g2, g3, b1, b2, b3, b4⟩ := beat_of (hval 0 24 v0 rfl rfl)
    obtain ⟨x1, rfl, lo1, hi1⟩ := ok_int (t := 3) Try.underlying3 (hval 1 3 v1 rfl rfl)
    obtain ⟨x2, rfl, lo2, hi2⟩ := ok_int (t := 3) Try.underlying3 (hval 2 3 v2 rfl rfl)
    obtain ⟨x3, rfl, lo3, hi3⟩ := ok_int (t := 3) Try.underlying3 (hval 3 3 v3 rfl rfl)
    obtain ⟨x4, rfl, lo4, hi4⟩ := ok_int (t := 3) Try.underlying3 (hval 4 3 v4 rfl rfl)
    obtain ⟨x5, rfl, lo5, hi5⟩ := ok_int (t := 3) Try.underlying3 (hval 5 3 v5 rfl rfl)
    obtain ⟨x6, rfl, lo6, hi6⟩ := ok_int (t := 3) Try.underlying3 (hval 6 3 v6 rfl rfl)
    exact back_law c v r e n x1 x2 x3 x4 x5 x6 W b1 b2 b3 b4 lo1 hi1 lo2 hi2 lo3 hi3 lo4 hi4 lo5 hi5 lo6 hi6

set_option maxRecDepth 100000 in
theorem back_lifted (os : Os) (started : os.Started) (H : Type) (enc : TypeId × Value → H) :
    ReturnsInHanded {} Try.checked os 6 .any (Rows.gateBackSpec.pre6 enc Try.prog Try.f6 Rows.gateBackRow.domain false) (Rows.gateBackSpec.post enc Try.prog Try.f6 false true false false) :=
  law_lifted (C := Try.checked) Try.own started (by kernel_rfl) Try.func6
    (ChangeSpec.witness6 (enc := enc) (C := Try.checked) false ⟨#[], #[.agg #[.float .f64 0, .float .f64 0, .float .f64 0, .int .i64 0, .int .i64 0], .int .i64 0, .int .i64 0, .int .i64 0, .int .i64 0, .int .i64 0, .int .i64 0], []⟩ 8 (by kernel_rfl) (by kernel_rfl) (by kernel_rfl) (by kernel_rfl))
    Try.laidOut (fun t ht => by have ht2 : t ∈ Try.f6.params.toList := ht; rw [Try.params6] at ht2; simp only [List.mem_cons, List.not_mem_nil, or_false, or_self] at ht2; rcases ht2 with rfl | rfl <;> exact ⟨by kernel_rfl, of_decide_eq_true (by kernel_rfl)⟩)
    rfl Try.underlying4 rfl (fun ds hd => by have hd2 : ds.length = Try.f6.params.size := hd; rw [Try.params6] at hd2; match ds, hd2 with | [d0, d1, d2, d3, d4, d5, d6], _ => exact ⟨rfl, rfl, rfl⟩) back_args

theorem back_holds : Rows.GateBackSaid :=
  OpenClaim.holds_of_wide 6 Try.f6 rfl rfl rfl rfl rfl rfl rfl ⟨rfl, rfl, rfl, rfl, rfl⟩ rfl rfl rfl rfl rfl (by kernel_rfl) Try.func6 (by kernel_rfl)
    (of_decide_eq_true (by kernel_rfl)) (by unfold Func.isWrapper; first | (rw [if_pos (by decide +kernel)]; kernel_rfl) | (rw [if_neg (by decide +kernel)]; exact ⟨rfl, rfl⟩))
    (fun os started H enc _ => back_lifted os started H enc)
#print axioms back_holds
end Go.Proofs.Ytakkdkgbkedliaa
