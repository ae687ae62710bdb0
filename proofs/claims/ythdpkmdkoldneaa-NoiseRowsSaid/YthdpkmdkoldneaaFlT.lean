import Derived.Test.YthdpkmdkoldneaaFlY
set_option autoImplicit false
set_option linter.unusedVariables false
namespace Lk
open Go
/-! how far roundings lead, each by at most a factor R -/
def R : Rat := 1 + 9 / 72057594037927936
def Sw (a b : Rat) (k : Nat) : Prop := a ≤ b * R ^ k ∧ b ≤ a * R ^ k
theorem R_pos : (0 : Rat) < R := by unfold R; decide +kernel
theorem R_ge : (1 : Rat) ≤ R := by unfold R; decide +kernel
theorem Rk_pos (k : Nat) : (0 : Rat) < R ^ k := Rat.pow_pos R_pos
theorem Rk_succ (k : Nat) : R ^ (k + 1) = R ^ k * R := Rat.pow_succ _ _
theorem Rk_add (j k : Nat) : R ^ (j + k) = R ^ j * R ^ k := by
  induction k with
  | zero => rw [Nat.add_zero, Rat.pow_zero, Rat.mul_one]
  | succ k ih => rw [← Nat.add_assoc, Rk_succ, Rk_succ, ih, Rat.mul_assoc]
theorem Rk_mono {j k : Nat} (h : j ≤ k) : R ^ j ≤ R ^ k := by
  induction h with
  | refl => exact Rat.le_refl
  | @step m h ih =>
    rw [Rk_succ]
    refine Rat.le_trans ih ?_
    have := Rat.mul_le_mul_of_nonneg_left R_ge (Rat.le_of_lt (Rk_pos m))
    rwa [Rat.mul_one] at this
theorem R40 : R ^ 40 ≤ 2 := by unfold R; decide +kernel
theorem Rk_two {k : Nat} (h : k ≤ 40) : R ^ k ≤ 2 := Rat.le_trans (Rk_mono h) R40
theorem Sw.refl (a : Rat) : Sw a a 0 := by unfold Sw; rw [Rat.pow_zero, Rat.mul_one]; exact ⟨Rat.le_refl, Rat.le_refl⟩
theorem Sw.symm {a b : Rat} {k : Nat} (h : Sw a b k) : Sw b a k := ⟨h.2, h.1⟩
theorem Sw.trans {a b c : Rat} {j k : Nat} (h : Sw a b j) (h' : Sw b c k) : Sw a c (j + k) := by
  have e1 := Rat.mul_le_mul_of_nonneg_right h'.1 (Rat.le_of_lt (Rk_pos j))
  have e2 := Rat.mul_le_mul_of_nonneg_right h.2 (Rat.le_of_lt (Rk_pos k))
  unfold Sw
  rw [Rk_add]
  constructor
  · exact Rat.le_trans h.1 (by rw [show c * (R ^ j * R ^ k) = c * R ^ k * R ^ j by grind]; exact e1)
  · exact Rat.le_trans h'.2 (by rw [show a * (R ^ j * R ^ k) = a * R ^ j * R ^ k by grind]; exact e2)
theorem Sw.mul {a b c d : Rat} {j k : Nat} (h : Sw a b j) (h' : Sw c d k) (ha : 0 ≤ a) (hb : 0 ≤ b) (hc : 0 ≤ c) (hd : 0 ≤ d) : Sw (a * c) (b * d) (j + k) := by
  have key : ∀ {a b c d : Rat} {j k : Nat}, a ≤ b * R ^ j → c ≤ d * R ^ k → 0 ≤ b → 0 ≤ c → a * c ≤ b * d * R ^ (j + k) := by
    intro a b c d j k h1 h2 hb hc
    have e1 := Rat.mul_le_mul_of_nonneg_right h1 hc
    have e2 := Rat.mul_le_mul_of_nonneg_left h2 (Rat.mul_nonneg hb (Rat.le_of_lt (Rk_pos j)))
    rw [Rk_add, show b * d * (R ^ j * R ^ k) = b * R ^ j * (d * R ^ k) by grind]
    exact Rat.le_trans e1 e2
  exact ⟨key h.1 h'.1 hb hc, key h.2 h'.2 ha hd⟩
theorem Sw.inv {c d : Rat} {k : Nat} (h : Sw c d k) (hc : 0 < c) (hd : 0 < d) : Sw c⁻¹ d⁻¹ k := by
  have key : ∀ {c d : Rat} {k : Nat}, d ≤ c * R ^ k → 0 < c → 0 < d → c⁻¹ ≤ d⁻¹ * R ^ k := by
    intro c d k h hc hd
    have hi : 0 < c⁻¹ * d⁻¹ := Rat.mul_pos (Rat.inv_pos.2 hc) (Rat.inv_pos.2 hd)
    have e1 := Rat.mul_le_mul_of_nonneg_left h (Rat.le_of_lt hi)
    rw [show c⁻¹ * d⁻¹ * d = c⁻¹ by have : d ≠ 0 := by grind
                                    grind, show c⁻¹ * d⁻¹ * (c * R ^ k) = d⁻¹ * R ^ k by have : c ≠ 0 := by grind
                                                                                         grind] at e1
    exact e1
  exact ⟨key h.2 hc hd, key h.1 hd hc⟩
theorem Sw.div {a b c d : Rat} {j k : Nat} (h : Sw a b j) (h' : Sw c d k) (ha : 0 ≤ a) (hb : 0 ≤ b) (hc : 0 < c) (hd : 0 < d) : Sw (a / c) (b / d) (j + k) := by
  rw [Rat.div_def, Rat.div_def]
  exact h.mul (h'.inv hc hd) ha hb (Rat.le_of_lt (Rat.inv_pos.2 hc)) (Rat.le_of_lt (Rat.inv_pos.2 hd))
theorem Sw.pos {a b : Rat} {k : Nat} (h : Sw a b k) (hb : 0 < b) : 0 < a := by
  apply Decidable.byContradiction
  intro hc
  have e1 := Rat.mul_le_mul_of_nonneg_right (show a ≤ 0 by grind) (Rat.le_of_lt (Rk_pos k))
  have := h.2
  grind
theorem Sw.two {a b : Rat} {k : Nat} (h : Sw a b k) (hk : k ≤ 40) (hb : 0 ≤ b) (ha : 0 ≤ a) : a ≤ b * 2 ∧ b ≤ a * 2 :=
  ⟨Rat.le_trans h.1 (Rat.mul_le_mul_of_nonneg_left (Rk_two hk) hb), Rat.le_trans h.2 (Rat.mul_le_mul_of_nonneg_left (Rk_two hk) ha)⟩
theorem U53 : p2 (-53) = 1 / 9007199254740992 := by kernel_rfl
theorem U52 : p2 (-52) = 2 / 9007199254740992 := by kernel_rfl
/-- one rounding, where nothing is small -/
theorem sw_rc {y : Rat} (h1 : p2 (-1022) ≤ y) (h2 : y ≤ p2 1000) : Sw (rc y) y 1 := by
  have y0 : 0 < y := by have := p2_pos (-1022); grind
  have hr : rc y = rnd y ∧ rnd y ≤ y + y * (1 / 9007199254740992) ∧ y - y * (1 / 9007199254740992) ≤ rnd y := by
    have hb : 2 * (rnd y - y) ≤ y * p2 (-52) ∧ 2 * (y - rnd y) ≤ y * p2 (-52) := by
      rcases rnd_err y (Rat.le_of_lt y0) with h | ⟨h, _⟩
      · exact h
      · exact absurd h (by grind)
    rw [U52] at hb
    have r0 := rnd_nonneg (Rat.le_of_lt y0)
    have hi : rnd y ≤ p2 1024 := by
      have : p2 1024 = 16777216 * p2 1000 := by have := p2_sub_nat 1024 24; simpa using this
      have := p2_pos 1000
      grind
    refine ⟨?_, by grind, by grind⟩
    unfold rc
    rw [if_neg (by have := p2_pos 1024; grind), if_neg (by grind)]
  obtain ⟨e, a, b⟩ := hr
  unfold Sw
  rw [e, show R ^ 1 = R by rw [show 1 = 0 + 1 from rfl, Rk_succ, Rat.pow_zero, Rat.one_mul]]
  unfold R
  constructor
  · grind
  · have : (y - y * (1 / 9007199254740992)) * (1 + 9 / 72057594037927936) ≤ rnd y * (1 + 9 / 72057594037927936) := Rat.mul_le_mul_of_nonneg_right b (by decide +kernel)
    grind
def Rg (x : Rat) : Prop := 1 / 10 ^ 40 ≤ x ∧ x ≤ 10 ^ 40
theorem lo40 : p2 (-1022) ≤ 1 / (2 * 10 ^ 40) := by decide +kernel
theorem hi40 : 2 * 10 ^ 40 ≤ p2 1000 := by decide +kernel
theorem sw_range {m t : Rat} {j : Nat} (h : Sw m t j) (hj : j ≤ 40) (hr : Rg t) : 0 < m ∧ p2 (-1022) ≤ m ∧ m ≤ p2 1000 := by
  have t0 : 0 < t := by have := hr.1; have : (0 : Rat) < 1 / 10 ^ 40 := by decide +kernel
                        grind
  have m0 := h.pos t0
  obtain ⟨h1, h2⟩ := h.two hj (Rat.le_of_lt t0) (Rat.le_of_lt m0)
  refine ⟨m0, Rat.le_trans lo40 ?_, Rat.le_trans ?_ hi40⟩
  · have := hr.1
    have e : (1 / (2 * 10 ^ 40) : Rat) * 2 = 1 / 10 ^ 40 := by decide +kernel
    grind
  · have := hr.2; grind
/-- a float that is about s t -/
def Pw (s : Rat) (w : Nat) (t : Rat) (j : Nat) : Prop := Fin w ∧ ∃ m, ev w = s * m ∧ 0 < m ∧ Sw m t j
def Sg (s : Rat) : Prop := s = 1 ∨ s = -1
theorem Sg.mul {s t : Rat} (h : Sg s) (k : Sg t) : Sg (s * t) := by unfold Sg at *; grind
theorem Sg.rc {s : Rat} (h : Sg s) (y : Rat) : rc (s * y) = s * rc y := by
  rcases h with rfl | rfl
  · rw [Rat.one_mul, Rat.one_mul]
  · rw [show -1 * y = -y by grind, rc_neg]; grind
theorem pw_of {s : Rat} {w : Nat} {y t : Rat} {j : Nat} (hs : Sg s) (hn : ¬ Nan w) (he : ev w = Lk.rc (s * y)) (h : Sw y t j) (hj : j ≤ 39) (hr : Rg t) : Pw s w t (j + 1) := by
  obtain ⟨y0, y1, y2⟩ := sw_range h (by omega) hr
  have h1 := sw_rc y1 y2
  have h2 : Sw (Lk.rc y) t (j + 1) := by have := h1.trans h; rwa [Nat.add_comm] at this
  obtain ⟨r0, r1, r2⟩ := sw_range h2 (by omega) hr
  rw [hs.rc] at he
  have hp : p2 1000 < p2 1024 := p2_lt (by decide)
  refine ⟨fin_of_ev hn ?_ ?_, _, he, r0, h2⟩ <;> rcases hs with rfl | rfl <;> grind
theorem Pw.mul {s t a b : Rat} {v w j k : Nat} (h : Pw s v a j) (h' : Pw t w b k) (hs : Sg s) (ht : Sg t) (ha : 0 < a) (hb : 0 < b) (hj : j + k ≤ 39) (hr : Rg (a * b)) : Pw (s * t) (fmul v w) (a * b) (j + k + 1) := by
  obtain ⟨f1, m, e1, m0, s1⟩ := h
  obtain ⟨f2, n, e2, n0, s2⟩ := h'
  obtain ⟨_, g2, g3, _⟩ := fmul_fin f1 f2
  refine pw_of (hs.mul ht) g2 ?_ (s1.mul s2 (Rat.le_of_lt m0) (Rat.le_of_lt ha) (Rat.le_of_lt n0) (Rat.le_of_lt hb)) hj hr
  rw [g3, e1, e2]; congr 1; grind
theorem Pw.div {s t a b : Rat} {v w j k : Nat} (h : Pw s v a j) (h' : Pw t w b k) (hs : Sg s) (ht : Sg t) (ha : 0 < a) (hb : 0 < b) (hj : j + k ≤ 39) (hr : Rg (a / b)) : Pw (s * t) (fdiv v w) (a / b) (j + k + 1) := by
  obtain ⟨f1, m, e1, m0, s1⟩ := h
  obtain ⟨f2, n, e2, n0, s2⟩ := h'
  have n1 : n ≠ 0 := by grind
  have hne : ev w ≠ 0 := by rw [e2]; rcases ht with rfl | rfl <;> grind
  obtain ⟨_, g2, g3, _⟩ := fdiv_fin f1 f2 hne
  refine pw_of (hs.mul ht) g2 ?_ (s1.div s2 (Rat.le_of_lt m0) (Rat.le_of_lt ha) n0 hb) hj hr
  rw [g3, e1, e2]; congr 1
  rcases ht with rfl | rfl <;> grind
theorem Pw.neg {s a : Rat} {v j : Nat} (h : Pw s v a j) : Pw (-s) (fneg v) a j := by
  obtain ⟨f1, m, e1, m0, s1⟩ := h
  exact ⟨fin_fneg.2 f1, m, by rw [ev_fneg, e1]; grind, m0, s1⟩
theorem pw_exact {s a : Rat} {v : Nat} (hf : Fin v) (he : ev v = s * a) (ha : 0 < a) : Pw s v a 0 := ⟨hf, a, he, ha, Sw.refl a⟩
end Lk
