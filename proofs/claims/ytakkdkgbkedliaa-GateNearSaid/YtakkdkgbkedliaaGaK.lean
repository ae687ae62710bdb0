import Derived.Test.YtakkdkgbkedliaaGaN
import Derived.Test.YtakkdkgbkedliaaFlT
set_option autoImplicit false
set_option linter.unusedVariables false
namespace Go.Proofs.Ytakkdkgbkedliaa
open Go.RowKit Lk
/-! the cell of a cell's middle -/
theorem half_exact {N : Int} (h0 : 0 ≤ N) (h : N ≤ 2 ^ 51) : Lk.Fin (fadd (floatOfInt .f64 N) 4602678819172646912) ∧ ev (fadd (floatOfInt .f64 N) 4602678819172646912) = (N : Rat) + 1 / 2 := by
  obtain ⟨f1, _⟩ := half_pos h0 (by omega)
  obtain ⟨⟨v1, v2⟩, _⟩ := V.ofInt (n := N) (by omega)
  obtain ⟨_, g2, g3, _⟩ := fadd_fin v1 (show Lk.Fin 4602678819172646912 by decide +kernel)
  refine ⟨f1, ?_⟩
  rw [g3, v2, ev_half]
  have hN : ((2 * N + 1 : Int) : Rat) = 2 * (N : Rat) + 1 := by
    rw [Rat.intCast_add, Rat.intCast_mul]; rfl
  refine rc_exact ⟨2 * N + 1, -1, by omega, by omega, ?_⟩ ?_ ?_
  · have : p2 (-1) = 1 / 2 := by kernel_rfl
    rw [hN, this]; grind
  · have l0 : (0 : Rat) ≤ (N : Rat) := by exact_mod_cast h0
    have := p2_pos 1024
    grind
  · have hp := int_lt_p2 (n := 4503599627370497) (by decide)
    have : (N : Rat) ≤ ((4503599627370496 : Int) : Rat) := Rat.intCast_le_intCast.2 (by omega)
    have e1 : ((4503599627370497 : Int) : Rat) = ((4503599627370496 : Int) : Rat) + 1 := by decide +kernel
    grind
/-- a cell's breadth, from 1e-100 to 1e100 -/
def Mid (c : Nat) : Prop := cge c 3110860544497550640 = true ∧ cle c 6103021453049119613 = true
theorem mid_range {c : Nat} (h : Mid c) : p2 (-334) ≤ ev c ∧ ev c ≤ p2 334 := by
  obtain ⟨h1, h2⟩ := h
  have a := (cge_iff.1 h1).2.2
  have b := (cle_iff.1 h2).2.2
  have l : p2 (-334) ≤ ev 3110860544497550640 := by decide +kernel
  have u : ev 6103021453049119613 ≤ p2 334 := by decide +kernel
  exact ⟨Rat.le_trans l a, Rat.le_trans b u⟩
theorem mid_mul {c : Nat} {H : Rat} (h : Mid c) (h1 : 1 / 2 ≤ H) (h2 : H ≤ 2 ^ 51) : p2 (-1022) ≤ H * ev c ∧ H * ev c ≤ p2 1000 ∧ 0 < ev c := by
  obtain ⟨a, b⟩ := mid_range h
  have c0 := p2_pos (-334)
  have c1 : 0 < ev c := by grind
  have e1 := Rat.mul_le_mul_of_nonneg_right h1 (Rat.le_of_lt c1)
  have e2 := Rat.mul_le_mul_of_nonneg_right h2 (Rat.le_of_lt c1)
  have l : p2 (-1022) ≤ 1 / 2 * p2 (-334) := by decide +kernel
  have u : 2 ^ 51 * p2 334 ≤ p2 1000 := by decide +kernel
  have e3 := Rat.mul_le_mul_of_nonneg_left a (show (0 : Rat) ≤ 1 / 2 by decide +kernel)
  have e4 := Rat.mul_le_mul_of_nonneg_left b (show (0 : Rat) ≤ 2 ^ 51 by decide +kernel)
  exact ⟨by grind, by grind, c1⟩
theorem conv_of {q : Nat} {z : Nat} (h : V q z) (hz : z < 2 ^ 50) : (floatToIntVal .f64 q .i64).getD 0 = (z : Int) := by
  rw [V.conv h (by omega) (by omega)]; rfl
theorem clt_far {q : Nat} {z : Nat} (h : V q z) (hz : z < 2 ^ 50) : clt q 4832362400168542208 = true := by
  refine clt_iff.2 ⟨h.1.not_nan, by decide +kernel, ?_⟩
  rw [h.2, ev_far]
  have : ((z : Int) : Rat) < ((1125899906842624 : Int) : Rat) := Rat.intCast_lt_intCast.2 (by omega)
  exact this
theorem celN_of {e : Int} {q z : Nat} (h : V q z) (hz : z < 2 ^ 50) (he : 1 ≤ e) : celN e q = ((z : Int) % e, (z : Int) / e, 0) := by
  unfold celN
  rw [if_pos (clt_far h hz), conv_of h hz]
  have hd0 : 0 ≤ (z : Int) / e := Int.ediv_nonneg (by omega) (by omega)
  have hd1 : (z : Int) / e ≤ z := Int.ediv_le_self _ (by omega)
  rw [Int.tmod_eq_emod_of_nonneg (by omega), IntKind.wrap_i64]
  congr 2
  omega
theorem met_ok {c v r : Nat} {e n k t : Int} (h : (met c v r e n k t).2 = 0) : chk c v r e n = 0 ∧ 0 ≤ k ∧ k < e ∧ 0 ≤ t ∧ t * e + k < 1125899906842624 ∧ Lk.Fin (mtr c (t * e + k)) ∧ (met c v r e n k t).1 = mtr c (t * e + k) := by
  unfold met at h ⊢
  by_cases h1 : chk c v r e n = 0
  · rw [if_neg (by simp [h1])] at h ⊢
    by_cases h2 : k < 0 ∨ e ≤ k ∨ t < 0
    · rw [if_pos h2] at h; exact absurd h (by decide)
    · rw [if_neg h2] at h ⊢
      by_cases h3 : 1125899906842624 ≤ t * e + k
      · rw [if_pos h3] at h; exact absurd h (by decide)
      · rw [if_neg h3] at h ⊢
        by_cases h4 : Lk.Fin (mtr c (t * e + k))
        · rw [if_pos h4]
          exact ⟨h1, by omega, by omega, by omega, by omega, h4, rfl⟩
        · exfalso; revert h; rw [if_neg h4]; show ¬ ((if Lk.Fin (mtr c (t * e + k)) then (0 : Int) else 6) = 0); rw [if_neg h4]; decide
  · rw [if_pos h1] at h; exact absurd h h1
theorem split_of {e k t : Int} (h1 : 0 ≤ k) (h2 : k < e) : (t * e + k) % e = k ∧ (t * e + k) / e = t := by
  constructor
  · rw [Int.add_comm, Int.add_mul_emod_self_right, Int.emod_eq_of_lt h1 h2]
  · rw [Int.add_comm, Int.add_mul_ediv_right _ _ (by omega), Int.ediv_eq_zero_of_lt h1 h2, Int.zero_add]
theorem mtr_ev {c : Nat} {N : Int} (h0 : 0 ≤ N) (h : N ≤ 2 ^ 51) (hc : okf c = true) : ev (mtr c N) = rc (((N : Rat) + 1 / 2) * ev c) := by
  obtain ⟨f1, f2⟩ := half_exact h0 h
  obtain ⟨_, _, g3, _⟩ := fmul_fin f1 (okf_pos hc).1
  unfold mtr
  rw [g3, f2]
theorem back_near {c : Nat} {N : Int} (h0 : 0 ≤ N) (h : N < 2 ^ 50) (hc : okf c = true) (hm : Mid c) (hf : Lk.Fin (mtr c N)) : 0 ≤ ev (mtr c N) ∧ (N : Rat) ≤ ev (fdiv (mtr c N) c) ∧ ev (fdiv (mtr c N) c) < (N : Rat) + 1 := by
  have em := mtr_ev h0 (by omega) hc
  have N0 : (0 : Rat) ≤ (N : Rat) := by exact_mod_cast h0
  have N1 : (N : Rat) ≤ 2 ^ 50 - 1 := by
    have : (N : Rat) ≤ ((1125899906842623 : Int) : Rat) := Rat.intCast_le_intCast.2 (by omega)
    have e1 : ((1125899906842623 : Int) : Rat) = 2 ^ 50 - 1 := by decide +kernel
    rwa [e1] at this
  have b51 : (2 : Rat) ^ 50 - 1 + 1 / 2 ≤ 2 ^ 51 := by decide +kernel
  obtain ⟨m1, m2, c0⟩ := mid_mul (H := (N : Rat) + 1 / 2) hm (by grind) (by grind)
  have s1 := sw_rc m1 m2
  rw [← em] at s1
  have H0 : 0 < ((N : Rat) + 1 / 2) * ev c := by have := p2_pos (-1022); grind
  have M0 := s1.pos H0
  have s2 := s1.div (Sw.refl (ev c)) (Rat.le_of_lt M0) (Rat.le_of_lt H0) c0 c0
  have cne0 : ev c ≠ 0 := by grind
  rw [show ((N : Rat) + 1 / 2) * ev c / ev c = (N : Rat) + 1 / 2 by grind] at s2
  have Q0 : 0 < ev (mtr c N) / ev c := s2.pos (by grind)
  have hR : R ^ (1 + 0) ≤ 2 := Rk_two (by decide)
  have q1 : p2 (-1022) ≤ ev (mtr c N) / ev c := by
    have := s2.2
    have e3 := Rat.mul_le_mul_of_nonneg_left hR (Rat.le_of_lt Q0)
    have : p2 (-1022) ≤ 1 / 4 := by decide +kernel
    grind
  have q2 : ev (mtr c N) / ev c ≤ p2 1000 := by
    have := s2.1
    have e3 := Rat.mul_le_mul_of_nonneg_left hR (show (0 : Rat) ≤ (N : Rat) + 1 / 2 by grind)
    have : (2 ^ 51) * 2 ≤ p2 1000 := by decide +kernel
    grind
  have s3 := (sw_rc q1 q2).trans s2
  obtain ⟨cf, cne⟩ := okf_pos hc
  obtain ⟨_, d2, d3, _⟩ := fdiv_fin hf cf cne
  rw [← d3] at s3
  have R2 : R ^ (1 + (1 + 0)) ≤ 1 + 10 / 36028797018963968 := by decide +kernel
  have Q1 := s3.pos (show (0 : Rat) < (N : Rat) + 1 / 2 by grind)
  generalize ev (fdiv (mtr c N) c) = q at *
  have u1 : q ≤ (N : Rat) + 1 / 2 + 5 / 16 := by
    have e3 := Rat.mul_le_mul_of_nonneg_left R2 (show (0 : Rat) ≤ (N : Rat) + 1 / 2 by grind)
    have e4 : ((N : Rat) + 1 / 2) * (10 / 36028797018963968) ≤ (2 ^ 50) * (10 / 36028797018963968) := Rat.mul_le_mul_of_nonneg_right (by grind) (by decide +kernel)
    have e5 : (2 : Rat) ^ 50 * (10 / 36028797018963968) = 5 / 16 := by decide +kernel
    have := s3.1
    grind
  have u2 : (N : Rat) ≤ q := by
    have e3 := Rat.mul_le_mul_of_nonneg_left R2 (Rat.le_of_lt Q1)
    have e4 : q * (10 / 36028797018963968) ≤ (2 ^ 50) * (10 / 36028797018963968) := Rat.mul_le_mul_of_nonneg_right (by grind) (by decide +kernel)
    have e5 : (2 : Rat) ^ 50 * (10 / 36028797018963968) = 5 / 16 := by decide +kernel
    have := s3.2
    grind
  exact ⟨Rat.le_of_lt M0, u2, by grind⟩
theorem back_floor {c : Nat} {N : Int} (h0 : 0 ≤ N) (h : N < 2 ^ 50) (hc : okf c = true) (hm : Mid c) (hf : Lk.Fin (mtr c N)) : 0 ≤ ev (mtr c N) ∧ V (flr (fdiv (mtr c N) c)) N := by
  obtain ⟨a, b, d⟩ := back_near h0 h hc hm hf
  obtain ⟨cf, cne⟩ := okf_pos hc
  obtain ⟨_, d2, d3, _⟩ := fdiv_fin hf cf cne
  have N0 : (0 : Rat) ≤ (N : Rat) := by exact_mod_cast h0
  have hp := int_lt_p2 (n := 1125899906842625) (by decide)
  have hN : ((N + 1 : Int) : Rat) ≤ ((1125899906842625 : Int) : Rat) := Rat.intCast_le_intCast.2 (by omega)
  rw [Rat.intCast_add] at hN
  have e1 : ((1 : Int) : Rat) = 1 := rfl
  have fq : Lk.Fin (fdiv (mtr c N) c) := fin_of_ev d2 (by have := p2_pos 1024; grind) (by grind)
  obtain ⟨z, z1, z2, _, _, z3, _⟩ := flr_spec fq (by grind)
  have hz : (z : Int) = N := by
    have k1 : ((z : Int) : Rat) < ((N + 1 : Int) : Rat) := by rw [Rat.intCast_add]; have : ((z : Int) : Rat) = (z : Rat) := rfl; grind
    have k2 : ((N : Int) : Rat) < ((z + 1 : Int) : Rat) := by rw [Rat.intCast_add]; have : ((z : Int) : Rat) = (z : Rat) := rfl; grind
    have k1 := Rat.intCast_lt_intCast.1 k1
    have k2 := Rat.intCast_lt_intCast.1 k2
    omega
  exact ⟨a, hz ▸ z3 (by omega)⟩
theorem back_cell {c v r : Nat} {e n k t : Int} (h : (met c v r e n k t).2 = 0) (hm : Mid c) : cel c v r e n (met c v r e n k t).1 = (k, t, 0) := by
  obtain ⟨hC, k0, k1, t0, hN, hf, he⟩ := met_ok h
  obtain ⟨oc, _, _, e1, _⟩ := chk_zero hC
  have hp0 : 0 ≤ t * e := Int.mul_nonneg (by omega) (by omega)
  obtain ⟨m0, hv⟩ := back_floor (N := t * e + k) (by omega) (by omega) oc hm hf
  rw [he]
  have hA : ask c v r e n (mtr c (t * e + k)) = 0 := by unfold ask; rw [if_pos hC, if_pos hf]
  have hlt : clt (mtr c (t * e + k)) 0 = false := by
    rw [← Bool.not_eq_true, clt_iff, show ev 0 = 0 by kernel_rfl]
    rintro ⟨_, _, h⟩
    grind
  unfold cel
  rw [if_pos hA, hlt]
  obtain ⟨z, hz⟩ := Int.eq_ofNat_of_zero_le (show 0 ≤ t * e + k by omega)
  rw [hz] at hv
  have := celN_of (e := e) hv (by omega) e1
  obtain ⟨s1, s2⟩ := split_of (e := e) (k := k) (t := t) k0 k1
  rw [show (if (false : Bool) = true then ((0 : Int), (0 : Int), (2 : Int)) else celN e (flr (fdiv (mtr c (t * e + k)) c))) = celN e (flr (fdiv (mtr c (t * e + k)) c)) from rfl, hz, this, ← hz, s1, s2]
theorem back_mono {c v r : Nat} {e n k t k2 t2 : Int} (h : (met c v r e n k t).2 = 0) (h2 : (met c v r e n k2 t2).2 = 0) (ho : t < t2 ∨ (t = t2 ∧ k < k2)) : cle (met c v r e n k t).1 (met c v r e n k2 t2).1 = true := by
  obtain ⟨hC, a0, a1, a2, a3, a4, a5⟩ := met_ok h
  obtain ⟨_, b0, b1, b2, b3, b4, b5⟩ := met_ok h2
  obtain ⟨oc, _, _, e1, _⟩ := chk_zero hC
  have hp0 : 0 ≤ t * e := Int.mul_nonneg (by omega) (by omega)
  have hp1 : 0 ≤ t2 * e := Int.mul_nonneg (by omega) (by omega)
  have hlt : t * e + k ≤ t2 * e + k2 := by
    rcases ho with h | ⟨rfl, h⟩
    · have := Int.mul_le_mul_of_nonneg_right (show t + 1 ≤ t2 by omega) (show 0 ≤ e by omega)
      rw [Int.add_mul, Int.one_mul] at this
      omega
    · omega
  rw [a5, b5]
  refine cle_iff.2 ⟨a4.not_nan, b4.not_nan, ?_⟩
  rw [mtr_ev (by omega) (by omega) oc, mtr_ev (by omega) (by omega) oc]
  refine rc_mono ?_
  have hr : ((t * e + k : Int) : Rat) ≤ ((t2 * e + k2 : Int) : Rat) := Rat.intCast_le_intCast.2 hlt
  exact Rat.mul_le_mul_of_nonneg_right (by grind) (Rat.le_of_lt (okf_gt oc))
theorem back_far {c v r : Nat} {e n N : Int} (hC : chk c v r e n = 0) (h0 : 0 ≤ N) (h : N < 2 ^ 50) : cel 4607182418800017408 v r e n (floatOfInt .f64 N) = (N % e, N / e, 0) := by
  obtain ⟨oc, ov, orr, e1, _⟩ := chk_zero hC
  have o1 : okf 4607182418800017408 = true := by decide +kernel
  have hC1 : chk 4607182418800017408 v r e n = 0 := by
    rw [← hC]; unfold chk chk3; rw [oc, ov, orr, o1]
  have hV := V.ofInt (n := N) (by omega)
  obtain ⟨vv, vl, vs⟩ := hV
  have hA : ask 4607182418800017408 v r e n (floatOfInt .f64 N) = 0 := by unfold ask; rw [if_pos hC1, if_pos vv.1]
  have N0 : (0 : Rat) ≤ (N : Rat) := by exact_mod_cast h0
  have hlt : clt (floatOfInt .f64 N) 0 = false := by
    rw [← Bool.not_eq_true, clt_iff, show ev 0 = 0 by kernel_rfl, vv.2]
    rintro ⟨_, _, h⟩
    grind
  have hd : V (fdiv (floatOfInt .f64 N) 4607182418800017408) N := V.div vv (V.lit (n := 1) (by decide) (by decide +kernel)) (by decide) (by omega) (by omega)
  obtain ⟨z, z1, z2, _, _, z3, _⟩ := flr_spec hd.1 (by rw [hd.2]; exact N0)
  rw [hd.2] at z1 z2
  have hz : (z : Int) = N := by
    have k1 : ((z : Int) : Rat) < ((N + 1 : Int) : Rat) := by rw [Rat.intCast_add]; have : ((z : Int) : Rat) = (z : Rat) := rfl; have e1 : ((1 : Int) : Rat) = 1 := rfl; grind
    have k2 : ((N : Int) : Rat) < ((z + 1 : Int) : Rat) := by rw [Rat.intCast_add]; have : ((z : Int) : Rat) = (z : Rat) := rfl; have e1 : ((1 : Int) : Rat) = 1 := rfl; grind
    have k1 := Rat.intCast_lt_intCast.1 k1
    have k2 := Rat.intCast_lt_intCast.1 k2
    omega
  unfold cel
  rw [if_pos hA, hlt]
  have := celN_of (e := e) (z3 (by omega)) (by omega) e1
  rw [show (if (false : Bool) = true then ((0 : Int), (0 : Int), (2 : Int)) else celN e (flr (fdiv (floatOfInt .f64 N) 4607182418800017408))) = celN e (flr (fdiv (floatOfInt .f64 N) 4607182418800017408)) from rfl, this, hz]
/-- a speed of nothing -/
theorem back_bin {c v r : Nat} {e n : Int} (hC : chk c v r e n = 0) : bin c v r e n 0 = (0, 0) ∨ bin c v r e n 0 = (0, 6) := by
  obtain ⟨oc, ov, orr, e1, e2, n1, n2⟩ := chk_zero hC
  have hA : ask c v r e n 0 = 0 := by unfold ask; rw [if_pos hC, if_pos (by decide +kernel)]
  unfold bin
  rw [if_pos hA]
  by_cases hT : Lk.Fin (biT v r e 0)
  · left
    rw [if_pos hT]
    have h2 : fmul 4611686018427387904 0 = 0 := by decide +kernel
    obtain ⟨vf, vne⟩ := okf_pos ov
    have vg := okf_gt ov
    have rg := okf_gt orr
    obtain ⟨rf, rne⟩ := okf_pos orr
    obtain ⟨⟨ef, ee⟩, el, es⟩ := V.ofInt (n := e) (by omega)
    obtain ⟨d1, d2, d3, d4⟩ := fdiv_fin (show Lk.Fin 0 by decide +kernel) vf vne
    have hs0 : ∀ {x : Nat}, 0 < ev x → sgn x = false := ev_pos_sgn
    have h3 : fdiv 0 v = 0 := by
      refine word_inj d1 (by decide) ?_ ?_
      · rw [d3, show ev 0 = 0 by kernel_rfl, show (0 : Rat) / ev v = 0 by rw [Rat.div_def, Rat.zero_mul], rc_zero]
      · rw [d4, hs0 vg]; decide
    obtain ⟨q1, q2, q3, q4⟩ := fdiv_fin ef rf rne
    have hT0 : biT v r e 0 = 0 := by
      unfold biT at hT ⊢
      rw [h2, h3] at hT ⊢
      rcases not_nan q2 with hq | hq
      · obtain ⟨p1, p2, p3, p4⟩ := fmul_fin (show Lk.Fin 0 by decide +kernel) hq
        refine word_inj p1 (by decide) ?_ ?_
        · show ev (fmul 0 (sec e r)) = _
          unfold sec; rw [p3, show ev 0 = 0 by kernel_rfl, Rat.zero_mul, rc_zero]
        · show sgn (fmul 0 (sec e r)) = _
          unfold sec; rw [p4, q4, es, hs0 rg, decide_eq_false (by omega)]; decide
      · exfalso
        have : fmul 0 (sec e r) = qn := by unfold fmul sec; rw [mul_zero_inf (by kernel_rfl) hq]; rfl
        rw [this] at hT
        exact hT.not_nan nan_qn
    have : biF v r e n 0 = 0 := by
      unfold biF
      rw [hT0, show wrp (fneg 0) = 0 by decide +kernel]
      obtain ⟨⟨nf, ne⟩, nl, ns⟩ := V.ofInt (n := n) (by omega)
      obtain ⟨p1, p2, p3, p4⟩ := fmul_fin (show Lk.Fin 0 by decide +kernel) nf
      refine word_inj p1 (by decide) ?_ ?_
      · rw [p3, show ev 0 = 0 by kernel_rfl, Rat.zero_mul, rc_zero]
      · rw [p4, ns, decide_eq_false (by omega)]; decide
    rw [this]
  · right; rw [if_neg hT]
end Go.Proofs.Ytakkdkgbkedliaa
