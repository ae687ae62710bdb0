import Derived.Test.YtjpddkojclgkmaaFlT
set_option autoImplicit false
set_option linter.unusedVariables false
namespace Lk
open Go
/-! a sure state stays a sure one -/
def U : Rat := 1 / 9007199254740992
theorem U_pos : 0 < U := by unfold U; decide +kernel
theorem er_pos {y B : Rat} (h0 : 0 ≤ y) (h : y ≤ B) (hB : p2 (-1022) ≤ B) (hB2 : B ≤ p2 1000) : rc y - y ≤ B * U ∧ y - rc y ≤ B * U := by
  have hb : 2 * (rnd y - y) ≤ B * p2 (-52) ∧ 2 * (y - rnd y) ≤ B * p2 (-52) := by
    have b0 := p2_pos (-1022)
    have e0 := p2_pos (-52)
    rcases rnd_err y h0 with ⟨h1, h2⟩ | ⟨_, h1, h2⟩
    · have := Rat.mul_le_mul_of_nonneg_right h (Rat.le_of_lt e0)
      exact ⟨by grind, by grind⟩
    · have := Rat.mul_le_mul_of_nonneg_right hB (Rat.le_of_lt e0)
      have e1 : p2 (-1022) * p2 (-52) = p2 (-1074) := by rw [← p2_add]; rfl
      exact ⟨by grind, by grind⟩
  rw [U52] at hb
  have hr : rc y = rnd y := by
    have r0 := rnd_nonneg h0
    have h1 : rnd y ≤ p2 1001 := by
      have : p2 1001 = 2 * p2 1000 := by have := p2_sub_nat 1001 1; simpa using this
      have hp := p2_pos 1000
      have : B * (2 / 9007199254740992) ≤ p2 1000 * (2 / 9007199254740992) := Rat.mul_le_mul_of_nonneg_right hB2 (by decide +kernel)
      grind
    have h2 : p2 1001 < p2 1024 := p2_lt (by decide)
    unfold rc
    rw [if_neg (by have := p2_pos 1024; grind), if_neg (by grind)]
  rw [hr]
  unfold U
  exact ⟨by grind, by grind⟩
/-- a rounding's error, of what is at most B -/
theorem er {y B : Rat} (h1 : -B ≤ y) (h2 : y ≤ B) (hB : p2 (-1022) ≤ B) (hB2 : B ≤ p2 1000) : rc y - y ≤ B * U ∧ y - rc y ≤ B * U := by
  by_cases h0 : 0 ≤ y
  · exact er_pos h0 h2 hB hB2
  · obtain ⟨a, b⟩ := er_pos (y := -y) (B := B) (by grind) (by grind) hB hB2
    rw [rc_neg] at a b
    exact ⟨by grind, by grind⟩
theorem rc_bd {y : Rat} {k : Int} (hk : -1074 ≤ k) (hk2 : k < 1024) (h1 : -(p2 k) ≤ y) (h2 : y ≤ p2 k) : -(p2 k) ≤ rc y ∧ rc y ≤ p2 k := by
  have hp : p2 k ≤ p2 1024 := p2_le (by omega)
  have e : rc (p2 k) = p2 k := rc_exact (rep_p2 hk) (by have := p2_pos k; have := p2_pos 1024; grind) hp
  have a := rc_mono h1
  have b := rc_mono h2
  rw [rc_neg, e] at a
  rw [e] at b
  exact ⟨a, b⟩
theorem sq_nonneg (a : Rat) : 0 ≤ a * a := by
  by_cases h : 0 ≤ a
  · exact Rat.mul_nonneg h h
  · have := Rat.mul_nonneg (show 0 ≤ -a by grind) (show 0 ≤ -a by grind)
    grind
theorem le_of_sq {a b : Rat} (hb : 0 ≤ b) (h : a * a ≤ b * b) : -b ≤ a ∧ a ≤ b := by
  have key : ∀ {a : Rat}, a * a ≤ b * b → a ≤ b := by
    intro a h
    apply Decidable.byContradiction
    intro hc
    have h1 : b < a := by grind
    have e1 := Rat.mul_le_mul_of_nonneg_left (Rat.le_of_lt h1) hb
    have e2 := Rat.mul_lt_mul_of_pos_right h1 (show 0 < a by grind)
    grind
  exact ⟨by have := key (a := -a) (by grind); grind, key h⟩
theorem nn_of_mul {a v : Rat} (hv : 0 < v) (h : 0 ≤ v * a) : 0 ≤ a := by
  apply Decidable.byContradiction
  intro hc
  have := Rat.mul_lt_mul_of_pos_left (show a < 0 by grind) hv
  grind
/-- the exact law -/
theorem exact_sure {x v c t s : Rat} (hx : 0 < x) (hv : 0 < v) (ht : 0 < t) (hs : 0 ≤ s) (hc : c * c ≤ x * v) :
    (c + v * t + s * t * t / 2) * (c + v * t + s * t * t / 2) ≤ (x + 2 * (c * t) + v * t * t + s * t * t * t / 3) * (v + s * t) ∧ 0 ≤ x + 2 * (c * t) + v * t * t := by
  have h1 : 0 ≤ x + c * t + v * t * t / 3 := by
    refine nn_of_mul hv ?_
    have h := sq_nonneg (v * t + 3 / 2 * c)
    have h' := sq_nonneg c
    have e : v * (x + c * t + v * t * t / 3) = (v * t + 3 / 2 * c) * (v * t + 3 / 2 * c) / 3 + (x * v - 3 / 4 * (c * c)) := by grind
    rw [e]
    grind
  have h2 : 0 ≤ x + 2 * (c * t) + v * t * t := by
    refine nn_of_mul hv ?_
    have h := sq_nonneg (v * t + c)
    have e : v * (x + 2 * (c * t) + v * t * t) = (v * t + c) * (v * t + c) + (x * v - c * c) := by grind
    rw [e]
    grind
  refine ⟨?_, h2⟩
  have h3 := Rat.mul_nonneg (Rat.mul_nonneg hs (Rat.le_of_lt ht)) h1
  have h4 := sq_nonneg (s * t * t)
  have e : (x + 2 * (c * t) + v * t * t + s * t * t * t / 3) * (v + s * t) - (c + v * t + s * t * t / 2) * (c + v * t + s * t * t / 2) = (x * v - c * c) + s * t * (x + c * t + v * t * t / 3) + (s * t * t) * (s * t * t) / 12 := by grind
  grind
theorem R_U : R = 1 + 9 / 8 * U := by unfold R U; decide +kernel
/-- what a rounding was of, at most -/
theorem inv_rc {y m : Rat} (h : rc y ≤ m) (h1 : p2 (-1000) ≤ m) (h2 : m ≤ p2 900) : y ≤ m * R := by
  apply Decidable.byContradiction
  intro hc
  have m0 : 0 < m := by have := p2_pos (-1000); grind
  have a := rc_mono (show m * R ≤ y by grind)
  have hR := R_ge
  have hR2 : R ≤ 2 := by unfold R; decide +kernel
  have e1 := Rat.mul_le_mul_of_nonneg_left hR (Rat.le_of_lt m0)
  have e2 := Rat.mul_le_mul_of_nonneg_left hR2 (Rat.le_of_lt m0)
  have l1 : p2 (-1022) ≤ p2 (-1000) := p2_le (by decide)
  have l2 : p2 900 * 2 ≤ p2 1000 := by decide +kernel
  obtain ⟨_, b⟩ := er_pos (y := m * R) (B := m * R) (by grind) Rat.le_refl (by grind) (by grind)
  have k : m * (R * (1 - U)) ≤ m * 1 := by grind
  have k2 : 1 < R * (1 - U) := by unfold R U; decide +kernel
  have := Rat.mul_lt_mul_of_pos_left k2 m0
  grind
theorem Rk5 {k : Nat} (h : k ≤ 5) : R ^ k ≤ 1 + 23 / 4 * U := Rat.le_trans (Rk_mono h) (by unfold R U; decide +kernel)
theorem sw_err {a b B : Rat} {k : Nat} (h : Sw a b k) (hk : k ≤ 5) (hb : 0 ≤ b) (hB : b ≤ B) : a - b ≤ B * (6 * U) ∧ b - a ≤ B * (6 * U) := by
  have h5 := Rk5 hk
  have u0 := U_pos
  have us : U ≤ 1 / 1000000 := by unfold U; decide +kernel
  have a0 : 0 ≤ a := by
    apply Decidable.byContradiction
    intro hc
    have := Rat.mul_lt_mul_of_pos_right (show a < 0 by grind) (Rk_pos k)
    have := h.2
    grind
  have e1 := Rat.mul_le_mul_of_nonneg_left h5 hb
  have e2 := Rat.mul_le_mul_of_nonneg_left h5 a0
  have h1 := h.1
  have h2 := h.2
  have e3 : b * U ≤ B * U := Rat.mul_le_mul_of_nonneg_right hB (Rat.le_of_lt u0)
  have e4 : a ≤ B * (1 + 23 / 4 * U) := Rat.le_trans h1 (Rat.le_trans e1 (Rat.mul_le_mul_of_nonneg_right hB (by grind)))
  have e5 : a * U ≤ B * (1 + 23 / 4 * U) * U := Rat.mul_le_mul_of_nonneg_right e4 (Rat.le_of_lt u0)
  have B0 : 0 ≤ B := by grind
  have e6 : B * U * (23 / 4 * U) ≤ B * U * (23 / 4 * (1 / 1000000)) := Rat.mul_le_mul_of_nonneg_left (by grind) (Rat.mul_nonneg B0 (Rat.le_of_lt u0))
  have e7 := Rat.mul_nonneg B0 (Rat.le_of_lt u0)
  exact ⟨by grind, by grind⟩
theorem mul_abs {a b p q : Rat} (h1 : -p ≤ a) (h2 : a ≤ p) (h3 : -q ≤ b) (h4 : b ≤ q) : a * b ≤ p * q ∧ -(p * q) ≤ a * b := by
  have e1 := Rat.mul_nonneg (show 0 ≤ p - a by grind) (show 0 ≤ q + b by grind)
  have e2 := Rat.mul_nonneg (show 0 ≤ p + a by grind) (show 0 ≤ q - b by grind)
  have e3 := Rat.mul_nonneg (show 0 ≤ p - a by grind) (show 0 ≤ q - b by grind)
  have e4 := Rat.mul_nonneg (show 0 ≤ p + a by grind) (show 0 ≤ q + b by grind)
  exact ⟨by grind, by grind⟩
theorem sw_zero {k : Nat} : Sw 0 0 k := by unfold Sw; rw [Rat.zero_mul]; exact ⟨Rat.le_refl, Rat.le_refl⟩
def Rh (x : Rat) : Prop := p2 (-600) ≤ x ∧ x ≤ p2 600
theorem sw_range2 {m t : Rat} {j : Nat} (h : Sw m t j) (hj : j ≤ 40) (hr : Rh t) : 0 < m ∧ p2 (-1022) ≤ m ∧ m ≤ p2 1000 := by
  have t0 : 0 < t := by have := hr.1; have := p2_pos (-600); grind
  have m0 := h.pos t0
  obtain ⟨h1, h2⟩ := h.two hj (Rat.le_of_lt t0) (Rat.le_of_lt m0)
  obtain ⟨r1, r2⟩ := hr
  have l : p2 (-1022) * 2 ≤ p2 (-600) := by decide +kernel
  have u : p2 600 * 2 ≤ p2 1000 := by decide +kernel
  exact ⟨m0, by grind, by grind⟩
/-- a rounding behind a row of them, of what may be nought -/
theorem sw_step {a b : Rat} {k : Nat} (h : Sw a b k) (hk : k ≤ 39) (hb : b = 0 ∨ Rh b) : Sw (rc a) b (k + 1) := by
  rcases hb with rfl | hr
  · have : a = 0 := by
      obtain ⟨h1, h2⟩ := h
      rw [Rat.zero_mul] at h1
      apply Decidable.byContradiction
      intro hc
      have := Rat.mul_lt_mul_of_pos_right (show a < 0 by grind) (Rk_pos k)
      grind
    rw [this, rc_zero]; exact sw_zero
  · obtain ⟨_, y1, y2⟩ := sw_range2 h (by omega) hr
    have := (sw_rc y1 y2).trans h
    rwa [Nat.add_comm] at this
theorem Sw.mul1 {a b c : Rat} {k : Nat} (h : Sw a b k) (hc : 0 ≤ c) : Sw (a * c) (b * c) k := by
  obtain ⟨h1, h2⟩ := h
  have e1 := Rat.mul_le_mul_of_nonneg_right h1 hc
  have e2 := Rat.mul_le_mul_of_nonneg_right h2 hc
  exact ⟨by grind, by grind⟩
theorem Sw.nn {a b : Rat} {k : Nat} (h : Sw a b k) (hb : 0 ≤ b) : 0 ≤ a := by
  apply Decidable.byContradiction
  intro hc
  have := Rat.mul_lt_mul_of_pos_right (show a < 0 by grind) (Rk_pos k)
  have := h.2
  grind
/-- from 2^-k to 2^k -/
def Wi (x : Rat) (k : Int) : Prop := p2 (-k) ≤ x ∧ x ≤ p2 k
theorem Wi.mul {x y : Rat} {j k : Int} (h : Wi x j) (h' : Wi y k) : Wi (x * y) (j + k) := by
  obtain ⟨a, b⟩ := h
  obtain ⟨c, d⟩ := h'
  have j0 := p2_pos (-j)
  have k0 := p2_pos (-k)
  have e1 := Rat.mul_le_mul_of_nonneg_right a (Rat.le_of_lt k0)
  have e2 := Rat.mul_le_mul_of_nonneg_left c (show 0 ≤ x by grind)
  have e3 := Rat.mul_le_mul_of_nonneg_right b (show 0 ≤ y by grind)
  have e4 := Rat.mul_le_mul_of_nonneg_left d (show 0 ≤ p2 j by have := p2_pos j; grind)
  unfold Wi
  rw [show -(j + k) = -j + -k by omega, p2_add, p2_add]
  exact ⟨Rat.le_trans e1 e2, Rat.le_trans e3 e4⟩
theorem Wi.rh {x : Rat} {k : Int} (h : Wi x k) (hk : k ≤ 600) : Rh x := ⟨Rat.le_trans (p2_le (by omega)) h.1, Rat.le_trans h.2 (p2_le hk)⟩
theorem Wi.pos {x : Rat} {k : Int} (h : Wi x k) : 0 < x := by have := h.1; have := p2_pos (-k); grind
theorem Wi.up {x : Rat} {j k : Int} (h : Wi x j) (hk : j ≤ k) : Wi x k := ⟨Rat.le_trans (p2_le (by omega)) h.1, Rat.le_trans h.2 (p2_le hk)⟩
theorem Wi.div3 {x : Rat} {k : Int} (h : Wi x k) : Wi (x / 3) (k + 2) := by
  obtain ⟨a, b⟩ := h
  have e1 : p2 (-k) = 4 * p2 (-(k + 2)) := by rw [show -k = -(k + 2) + 1 + 1 by omega, p2_succ, p2_succ]; grind
  have e2 : p2 (k + 2) = 4 * p2 k := by rw [show k + 2 = k + 1 + 1 by omega, p2_succ, p2_succ]; grind
  have := p2_pos (-(k + 2))
  have := p2_pos k
  exact ⟨by grind, by grind⟩
theorem Wi.div2 {x : Rat} {k : Int} (h : Wi x k) : Wi (x / 2) (k + 1) := by
  obtain ⟨a, b⟩ := h
  have e1 : p2 (-k) = 2 * p2 (-(k + 1)) := by rw [show -k = -(k + 1) + 1 by omega, p2_succ]
  have e2 : p2 (k + 1) = 2 * p2 k := p2_succ k
  have := p2_pos (-(k + 1))
  have := p2_pos k
  exact ⟨by grind, by grind⟩
theorem sure_end {X V C P W C2 M w m kp : Rat} (M0 : 0 < M) (w0 : 0 ≤ w) (wM : w ≤ M / 1000000) (hw : M * U = w) (hM : m * (1 + 1 / 1000000) = M) (m0 : 0 < m) (triv : 0 ≤ M) (m1 : p2 (-100) ≤ m) (hm2 : m ≤ p2 250) (Mlo : p2 (-1022) ≤ M) (Mhi : M ≤ p2 400)
    (hkp : 99 / 100000000000000 ≤ kp) (hkp2 : kp ≤ 1) (ex : C * C ≤ X * V) (X0 : 0 ≤ X) (bX : X ≤ 7 * M) (bV : V ≤ 2 * M) (V0 : 0 ≤ V) (bC : C ≤ 4 * M) (bC' : -(4 * M) ≤ C) (P0 : 0 ≤ P) (dP : P - X ≤ 47 * w) (dP' : -(47 * w) ≤ P - X)
    (dC : C2 - C ≤ 26 * w) (dC' : -(26 * w) ≤ C2 - C) (dW : W - V ≤ 9 * w) (dW' : -(9 * w) ≤ W - V) : C2 * C2 ≤ rc (P * W) + rc (rc (kp * m) * m) := by
  have M2 : 0 < M * M := Rat.mul_pos M0 M0
  have wM2 : 0 ≤ w * M := Rat.mul_nonneg w0 (Rat.le_of_lt M0)
  have h1 := (mul_abs (a := C2 - C) (b := 2 * C + (C2 - C)) (p := 26 * w) (q := 9 * M) dC' dC (by grind) (by grind)).1
  have e1 : C2 * C2 = C * C + (C2 - C) * (2 * C + (C2 - C)) := by grind
  have h2 := (mul_abs (a := P) (b := W - V) (p := 8 * M) (q := 9 * w) (by grind) (by grind) dW' dW).2
  have h3 := (mul_abs (a := P - X) (b := V) (p := 47 * w) (q := 2 * M) dP' dP (by grind) bV).2
  have e2 : P * W = X * V + P * (W - V) + (P - X) * V := by grind
  have h4 := mul_abs (a := P) (b := W) (p := 8 * M) (q := 3 * M) (by grind) (by grind) (by grind) (by grind)
  have MM : M * M ≤ p2 400 * p2 400 := by
    have a := Rat.mul_le_mul_of_nonneg_left Mhi (Rat.le_of_lt M0)
    have b := Rat.mul_le_mul_of_nonneg_right Mhi (Rat.le_of_lt (p2_pos 400))
    grind
  have mM : m ≤ M := by grind
  have ML : p2 (-100) * p2 (-100) ≤ M * M := by
    have a := Rat.mul_le_mul_of_nonneg_left (Rat.le_trans m1 mM) (Rat.le_of_lt M0)
    have b := Rat.mul_le_mul_of_nonneg_right (Rat.le_trans m1 mM) (Rat.le_of_lt (p2_pos (-100)))
    grind
  have l1 : p2 (-1022) ≤ p2 (-100) * p2 (-100) := by rw [← p2_add]; exact p2_le (by decide)
  have l2 : 24 * (p2 400 * p2 400) ≤ p2 1000 := by decide +kernel
  have h5 := (er (y := P * W) (B := 24 * (M * M)) (by grind) (by grind) (by grind) (by grind)).2
  have e3 : 24 * (M * M) * U = 24 * (w * M) := by rw [← hw]; grind
  rw [e3] at h5
  -- what is added
  have wk : Wi kp 41 := ⟨Rat.le_trans (by decide +kernel) hkp, Rat.le_trans hkp2 (by decide +kernel)⟩
  have wm : Wi m 250 := ⟨Rat.le_trans (p2_le (by decide)) m1, hm2⟩
  have s1 := sw_step (Sw.refl (kp * m)) (by decide) (.inr ((wk.mul wm).rh (by decide)))
  have s2 := sw_step (s1.mul1 (Rat.le_of_lt m0)) (by decide) (.inr (((wk.mul wm).mul wm).rh (by decide)))
  have g0 := s2.nn (Rat.mul_nonneg (Rat.mul_nonneg (by grind) (Rat.le_of_lt m0)) (Rat.le_of_lt m0))
  have g1 := s2.2
  have g2 := Rat.mul_le_mul_of_nonneg_left (Rk_two (k := 0 + 1 + 1) (by decide)) g0
  have mm : 0 < m * m := Rat.mul_pos m0 m0
  have g3 : 99 / 100000000000000 * (m * m) ≤ kp * (m * m) := Rat.mul_le_mul_of_nonneg_right hkp (Rat.le_of_lt mm)
  generalize rc (rc (kp * m) * m) = G at *
  have g4 : 424 * (w * M) ≤ 49 / 100000000000000 * (m * m) := by
    have e4 : w * M = m * m * ((1 + 1 / 1000000) * (1 + 1 / 1000000) * U) := by rw [← hw, ← hM]; grind
    rw [e4]
    have n1 : 424 * ((1 + 1 / 1000000) * (1 + 1 / 1000000) * U) ≤ 49 / 100000000000000 := by unfold U; decide +kernel
    have := Rat.mul_le_mul_of_nonneg_right n1 (Rat.le_of_lt mm)
    grind
  have e5 : kp * m * m = kp * (m * m) := by grind
  grind
set_option maxHeartbeats 4000000 in
/-- the law of the roundings -/
theorem sure_core {x v c t s m kp : Rat} (hx : Wi x 100) (hv : Wi v 100) (ht : Wi t 20) (hs : s = 0 ∨ Wi s 100) (hc : c * c ≤ x * v) (hm2 : m ≤ p2 250) (hkp : 99 / 100000000000000 ≤ kp) (hkp2 : kp ≤ 1) {P W : Rat}
    (bx : x ≤ m) (hP : P = (if 0 < rc (rc (rc (rc (x + rc (c * t)) + rc (c * t)) + rc (rc (v * t) * t)) + rc (rc (rc (rc (s * t) * t) * t) / 3)) then rc (rc (rc (rc (x + rc (c * t)) + rc (c * t)) + rc (rc (v * t) * t)) + rc (rc (rc (rc (s * t) * t) * t) / 3)) else 0)) (bP : P ≤ m)
    (hW : W = rc (v + rc (s * t))) (bW : W ≤ m) (b1 : rc (rc (t * t) * v) ≤ m) (b2 : rc (t * v) ≤ m) (b3 : rc (t * c.abs) ≤ m) :
    rc (rc (c + rc (v * t)) + rc (rc (rc (s * t) * t) / 2)) * rc (rc (c + rc (v * t)) + rc (rc (rc (s * t) * t) / 2)) ≤ rc (P * W) + rc (rc (kp * m) * m) := by
  have x0 := hx.pos
  have v0 := hv.pos
  have t0 := ht.pos
  have s0 : 0 ≤ s := by rcases hs with rfl | h; exact Rat.le_refl; exact Rat.le_of_lt h.pos
  have m1 : p2 (-100) ≤ m := Rat.le_trans hx.1 bx
  have m0 : 0 < m := by have := p2_pos (-100); grind
  have lo1 : p2 (-1000) ≤ m := Rat.le_trans (p2_le (by decide)) m1
  have hi1 : m ≤ p2 900 := Rat.le_trans hm2 (p2_le (by decide))
  have u0 := U_pos
  -- the greatest of all, a little more
  generalize hM : m * (1 + 1 / 1000000) = M
  have M0 : 0 < M := by grind
  have Mm : m ≤ M := by grind
  have Mlo : p2 (-1022) ≤ M := Rat.le_trans (Rat.le_trans (p2_le (by decide)) m1) Mm
  have Mhi : M ≤ p2 400 := by
    have : p2 250 * 2 ≤ p2 400 := by decide +kernel
    grind
  have R3 : R ^ 3 ≤ 1 + 1 / 1000000 := by decide +kernel
  have up : ∀ {y : Rat} {k : Nat}, 0 ≤ y → k ≤ 3 → y ≤ m * R ^ k → y ≤ M := by
    intro y k hy hk h
    have := Rat.mul_le_mul_of_nonneg_left (Rat.le_trans (Rk_mono hk) R3) (Rat.le_of_lt m0)
    grind
  have st0 : 0 ≤ s * t := Rat.mul_nonneg s0 (Rat.le_of_lt t0)
  -- the rows of roundings
  have wst : s * t = 0 ∨ Wi (s * t) 120 := by rcases hs with rfl | h; left; grind; right; exact h.mul ht
  have wstt : s * t * t = 0 ∨ Wi (s * t * t) 140 := by rcases wst with h | h; left; rw [h]; grind; right; exact h.mul ht
  have wsttt : s * t * t * t = 0 ∨ Wi (s * t * t * t) 160 := by rcases wstt with h | h; left; rw [h]; grind; right; exact h.mul ht
  have sQ : Sw (rc (s * t)) (s * t) 1 := sw_step (Sw.refl _) (by decide) (by rcases wst with h | h; left; exact h; right; exact h.rh (by decide))
  have sQT : Sw (rc (rc (s * t) * t)) (s * t * t) 2 := sw_step (sQ.mul1 (Rat.le_of_lt t0)) (by decide) (by rcases wstt with h | h; left; exact h; right; exact h.rh (by decide))
  have sQ3 : Sw (rc (rc (rc (s * t) * t) * t)) (s * t * t * t) 3 := sw_step (sQT.mul1 (Rat.le_of_lt t0)) (by decide) (by rcases wsttt with h | h; left; exact h; right; exact h.rh (by decide))
  have sY : Sw (rc (rc (rc (rc (s * t) * t) * t) / 3)) (s * t * t * t / 3) 4 := sw_step (by have := sQ3.mul1 (c := 1 / 3) (by decide +kernel); rwa [show ∀ a : Rat, a * (1 / 3) = a / 3 from fun a => by grind, show ∀ a : Rat, a * (1 / 3) = a / 3 from fun a => by grind] at this) (by decide) (by rcases wsttt with h | h; left; rw [h]; decide +kernel; right; exact h.div3.rh (by decide))
  have sH : Sw (rc (rc (rc (s * t) * t) / 2)) (s * t * t / 2) 3 := sw_step (by have := sQT.mul1 (c := 1 / 2) (by decide +kernel); rwa [show ∀ a : Rat, a * (1 / 2) = a / 2 from fun a => by grind, show ∀ a : Rat, a * (1 / 2) = a / 2 from fun a => by grind] at this) (by decide) (by rcases wstt with h | h; left; rw [h]; decide +kernel; right; exact h.div2.rh (by decide))
  have sB : Sw (rc (v * t)) (v * t) 1 := sw_step (Sw.refl _) (by decide) (.inr ((hv.mul ht).rh (by decide)))
  have sBT : Sw (rc (rc (v * t) * t)) (v * t * t) 2 := sw_step (sB.mul1 (Rat.le_of_lt t0)) (by decide) (.inr (((hv.mul ht).mul ht).rh (by decide)))
  have Q0 := sQ.nn st0
  have st20 : 0 ≤ s * t * t := Rat.mul_nonneg st0 (Rat.le_of_lt t0)
  have st30 : 0 ≤ s * t * t * t := Rat.mul_nonneg st20 (Rat.le_of_lt t0)
  have vt0 : 0 ≤ v * t := Rat.mul_nonneg (Rat.le_of_lt v0) (Rat.le_of_lt t0)
  have vtt0 : 0 ≤ v * t * t := Rat.mul_nonneg vt0 (Rat.le_of_lt t0)
  -- what is at most M
  have xM : x ≤ M := Rat.le_trans bx Mm
  have vQ : v + rc (s * t) ≤ m * R := by rw [hW] at bW; exact inv_rc bW lo1 hi1
  have hR1 : R ^ 1 = R := by rw [show 1 = 0 + 1 from rfl, Rk_succ, Rat.pow_zero, Rat.one_mul]
  have vM : v ≤ M := up (k := 1) (Rat.le_of_lt v0) (by decide) (by rw [hR1]; grind)
  have QM : rc (s * t) ≤ M := up (k := 1) Q0 (by decide) (by rw [hR1]; grind)
  have stM : s * t ≤ M := up (k := 2) st0 (by decide) (by
    have a := sQ.2
    have b := Rat.mul_le_mul_of_nonneg_right (show rc (s * t) ≤ m * R by grind) (Rat.le_of_lt R_pos)
    rw [hR1] at a
    rw [show (2 : Nat) = 1 + 1 from rfl, Rk_succ, hR1]
    grind)
  have vtM : v * t ≤ M := up (k := 1) vt0 (by decide) (by rw [hR1, Rat.mul_comm v t]; exact inv_rc b2 lo1 hi1)
  have vttM : v * t * t ≤ M := up (k := 2) vtt0 (by decide) (by
    have a := inv_rc b1 lo1 hi1
    have h := (sw_step (Sw.refl (t * t)) (by decide) (.inr ((ht.mul ht).rh (by decide)))).mul1 (Rat.le_of_lt v0)
    have b := h.2
    have d := Rat.mul_le_mul_of_nonneg_right a (Rat.le_of_lt R_pos)
    rw [show 0 + 1 = 1 from rfl, hR1] at b
    rw [show (2 : Nat) = 1 + 1 from rfl, Rk_succ, hR1]
    grind)
  have cab : 0 ≤ c.abs := Rat.abs_nonneg
  have tcM : t * c.abs ≤ M := up (k := 1) (Rat.mul_nonneg (Rat.le_of_lt t0) cab) (by decide) (by rw [hR1]; exact inv_rc b3 lo1 hi1)
  have M0' := Rat.le_of_lt M0
  have cM : -M ≤ c ∧ c ≤ M := by
    refine le_of_sq M0' ?_
    have a := Rat.mul_le_mul_of_nonneg_right xM (Rat.le_of_lt v0)
    have b := Rat.mul_le_mul_of_nonneg_left vM M0'
    grind
  have ctM : -M ≤ c * t ∧ c * t ≤ M := by
    have h : c * t = t * c := Rat.mul_comm _ _
    have e : c.abs = c ∨ c.abs = -c := by unfold Rat.abs; split <;> simp
    have k : 0 ≤ t * c.abs := Rat.mul_nonneg (Rat.le_of_lt t0) cab
    rcases e with e | e <;> rw [e] at tcM k <;> constructor <;> grind
  generalize hw : M * U = w
  have w0 : 0 ≤ w := by rw [← hw]; exact Rat.mul_nonneg M0' (Rat.le_of_lt u0)
  have wM : w ≤ M / 1000000 := by
    have : M * U ≤ M * (1 / 1000000) := Rat.mul_le_mul_of_nonneg_left (by unfold U; decide +kernel) M0'
    grind
  have ek : ∀ {y : Rat} (k : Rat), 1 ≤ k → k ≤ 100 → -(k * M) ≤ y → y ≤ k * M → rc y - y ≤ k * w ∧ y - rc y ≤ k * w := by
    intro y k k1 k2 h1 h2
    have l : M ≤ k * M := by have := Rat.mul_le_mul_of_nonneg_right k1 M0'; grind
    have u : k * M ≤ p2 1000 := by
      have a := Rat.mul_le_mul_of_nonneg_right k2 M0'
      have b : 100 * p2 400 ≤ p2 1000 := by decide +kernel
      grind
    have := er h1 h2 (Rat.le_trans Mlo l) u
    rw [Rat.mul_assoc, hw] at this
    exact this
  have sk : ∀ {a b : Rat} {k : Nat} (q : Rat), Sw a b k → k ≤ 5 → 0 ≤ b → b ≤ q * M → a - b ≤ 6 * q * w ∧ b - a ≤ 6 * q * w := by
    intro a b k q h hk hb hB
    have := sw_err h hk hb hB
    rw [show q * M * (6 * U) = 6 * q * (M * U) by grind, hw] at this
    exact this
  -- the place's square
  obtain ⟨eA1, eA2⟩ := ek 1 (by decide) (by decide) (by grind) (by grind) (y := c * t)
  generalize rc (c * t) = A at *
  obtain ⟨eP1, eP2⟩ := ek 3 (by decide) (by decide) (by grind) (by grind) (y := x + A)
  generalize rc (x + A) = P1 at *
  obtain ⟨eR1, eR2⟩ := ek 4 (by decide) (by decide) (by grind) (by grind) (y := P1 + A)
  generalize rc (P1 + A) = P2 at *
  obtain ⟨eB1, eB2⟩ := sk 1 sB (by decide) vt0 (by grind)
  obtain ⟨eT1, eT2⟩ := sk 1 sBT (by decide) vtt0 (by grind)
  clear sB sBT
  generalize rc (rc (v * t) * t) = BT at *
  generalize rc (v * t) = B at *
  obtain ⟨eS1, eS2⟩ := ek 5 (by decide) (by decide) (by grind) (by grind) (y := P2 + BT)
  generalize rc (P2 + BT) = P3 at *
  obtain ⟨ex1, ex2⟩ := exact_sure x0 v0 t0 s0 hc
  have b4 : rc (P3 + rc (rc (rc (rc (s * t) * t) * t) / 3)) ≤ m := by
    rw [hP] at bP
    split at bP
    · exact bP
    · grind
  have y0 : 0 ≤ rc (rc (rc (rc (s * t) * t) * t) / 3) := sY.nn (by grind)
  have b5 := inv_rc b4 lo1 hi1
  have mRM : m * R ≤ M := by
    have hR : R ≤ 1 + 1 / 1000000 := by decide +kernel
    have := Rat.mul_le_mul_of_nonneg_left hR (Rat.le_of_lt m0)
    grind
  have yM : rc (rc (rc (rc (s * t) * t) * t) / 3) ≤ 2 * M := by grind
  have zM : s * t * t * t / 3 ≤ 3 * M := by
    have h5 := Rk5 (k := 4) (by decide)
    have h6 : (1 : Rat) + 23 / 4 * U ≤ 3 / 2 := by unfold U; decide +kernel
    have h7 := Rat.mul_le_mul_of_nonneg_left (Rat.le_trans h5 h6) y0
    have h8 := sY.2
    grind
  obtain ⟨eY1, eY2⟩ := sk 3 sY (by decide) (by grind) zM
  clear sY sQ3
  generalize rc (rc (rc (rc (s * t) * t) * t) / 3) = Y at *
  obtain ⟨eQ1, eQ2⟩ := ek 9 (by decide) (by decide) (by grind) (by grind) (y := P3 + Y)
  generalize rc (P3 + Y) = P4 at *
  -- the sway
  have hM2 : s * t * t / 2 ≤ 2 * M := by
    refine (le_of_sq (by grind) ?_).2
    have a := Rat.mul_le_mul_of_nonneg_right zM st0
    have b := Rat.mul_le_mul_of_nonneg_left stM (show 0 ≤ 3 * M by grind)
    have e : s * t * t / 2 * (s * t * t / 2) = 3 / 4 * (s * t * t * t / 3 * (s * t)) := by grind
    rw [e]
    have := Rat.mul_nonneg M0' M0'
    grind
  obtain ⟨eH1, eH2⟩ := sk 2 sH (by decide) (by grind) hM2
  clear sH sQT
  generalize rc (rc (rc (s * t) * t) / 2) = H at *
  obtain ⟨eC1, eC2⟩ := ek 3 (by decide) (by decide) (by grind) (by grind) (y := c + B)
  generalize rc (c + B) = C1 at *
  obtain ⟨eD1, eD2⟩ := ek 5 (by decide) (by decide) (by grind) (by grind) (y := C1 + H)
  generalize rc (C1 + H) = C2 at *
  obtain ⟨eq1, eq2⟩ := sk 1 sQ (by decide) st0 (by grind)
  clear sQ
  generalize rc (s * t) = Q at *
  obtain ⟨eW1, eW2⟩ := ek 3 (by decide) (by decide) (by grind) (by grind) (y := v + Q)
  rw [← hW] at eW1 eW2
  -- together
  have X0 : 0 ≤ x + 2 * (c * t) + v * t * t + s * t * t * t / 3 := by grind
  have dP : P - (x + 2 * (c * t) + v * t * t + s * t * t * t / 3) ≤ 47 * w ∧ -(47 * w) ≤ P - (x + 2 * (c * t) + v * t * t + s * t * t * t / 3) := by
    rw [hP]; split <;> constructor <;> grind
  have dC : C2 - (c + v * t + s * t * t / 2) ≤ 26 * w ∧ -(26 * w) ≤ C2 - (c + v * t + s * t * t / 2) := by constructor <;> grind
  have dW : W - (v + s * t) ≤ 9 * w ∧ -(9 * w) ≤ W - (v + s * t) := by constructor <;> grind
  have bC : c + v * t + s * t * t / 2 ≤ 4 * M ∧ -(4 * M) ≤ c + v * t + s * t * t / 2 := by constructor <;> grind
  have bV : v + s * t ≤ 2 * M ∧ 0 ≤ v + s * t := by constructor <;> grind
  have bX : x + 2 * (c * t) + v * t * t + s * t * t * t / 3 ≤ 7 * M := by grind
  have P0 : 0 ≤ P := by rw [hP]; split <;> grind
  clear hP hW eA1 eA2 eP1 eP2 eR1 eR2 eB1 eB2 eT1 eT2 eS1 eS2 eY1 eY2 eQ1 eQ2 eH1 eH2 eC1 eC2 eD1 eD2 eq1 eq2 eW1 eW2 ex2
  exact sure_end M0 w0 wM hw hM m0 (by grind) m1 hm2 Mlo Mhi hkp hkp2 ex1 X0 bX bV.1 bV.2 bC.1 bC.2 P0 dP.1 dP.2 dC.1 dC.2 dW.1 dW.2
end Lk
