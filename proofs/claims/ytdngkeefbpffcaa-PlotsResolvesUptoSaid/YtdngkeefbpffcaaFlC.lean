import Derived.Test.YtdngkeefbpffcaaFlB
set_option autoImplicit false
namespace Lk
open Ieee

/-- the value of what has at most 53 digits above the least place -/
def Rep (x : Rat) : Prop := ∃ (m : Int) (e : Int), -1074 ≤ e ∧ m.natAbs ≤ 2 ^ 53 ∧ x = (m : Rat) * p2 e

theorem Rnd.exact {x y : Rat} {k : Nat} {e : Int} (h : Rnd x y k e) {m : Nat} {e' : Int} (he : -1074 ≤ e') (hm : m ≤ 2 ^ 53) (hx : x = (m : Rat) * p2 e') : y = x := by
  have hp := p2_pos e
  by_cases hc : e ≤ e'
  · obtain ⟨n, rfl⟩ : ∃ n : Nat, e' = n + e := ⟨(e' - e).toNat, by omega⟩
    have hx2 : x = ((m * 2 ^ n : Nat) : Rat) * p2 e := by
      rw [hx, p2_add, p2_nat, Rat.natCast_mul]; exact (Rat.mul_assoc _ _ _).symm
    generalize m * 2 ^ n = M at hx2
    have h1 := h.below
    have h2 := h.above
    have c1 : (2 * (k : Rat) - 1) * p2 e ≤ (2 * (M : Rat)) * p2 e := by grind
    have c2 : (2 * (M : Rat)) * p2 e ≤ (2 * (k : Rat) + 1) * p2 e := by grind
    have c3 := Rat.le_of_mul_le_mul_right c1 hp
    have c4 := Rat.le_of_mul_le_mul_right c2 hp
    have c5 : ((2 * k : Nat) : Rat) ≤ ((2 * M + 1 : Nat) : Rat) := by
      have e1 : ((2 * k : Nat) : Rat) = 2 * (k : Rat) := by push_cast; rfl
      have e2 : ((2 * M + 1 : Nat) : Rat) = 2 * (M : Rat) + 1 := by push_cast; rfl
      grind
    have c6 : ((2 * M : Nat) : Rat) ≤ ((2 * k + 1 : Nat) : Rat) := by
      have e1 : ((2 * M : Nat) : Rat) = 2 * (M : Rat) := by push_cast; rfl
      have e2 : ((2 * k + 1 : Nat) : Rat) = 2 * (k : Rat) + 1 := by push_cast; rfl
      grind
    have c7 : 2 * k ≤ 2 * M + 1 := by exact_mod_cast c5
    have c8 : 2 * M ≤ 2 * k + 1 := by exact_mod_cast c6
    have c9 : k = M := by omega
    rw [h.val, hx2, c9]
  · have hl : p2 (e + 52) ≤ x := by
      rcases h.low with h1 | h1
      · omega
      · exact h1
    have hm' : (m : Rat) ≤ ((2 ^ 53 : Nat) : Rat) := by exact_mod_cast hm
    have h3 : x ≤ p2 (e' + 53) := by
      have := p2_sub_nat (e' + 53) 53
      have e1 : e' + 53 - ((53 : Nat) : Int) = e' := by omega
      rw [e1] at this
      rw [this, hx]
      exact Rat.mul_le_mul_of_nonneg_right hm' (Rat.le_of_lt (p2_pos e'))
    have h4 : e + 52 ≤ e' + 53 := p2_le_iff.1 (by grind)
    obtain rfl : e = e' + 1 := by omega
    have h5 : x = p2 (e' + 1 + 52) := by
      rw [show e' + 53 = e' + 1 + 52 by omega] at h3
      exact Rat.le_antisymm h3 hl
    have h6 : x = ((2 ^ 52 : Nat) : Rat) * p2 (e' + 1) := by
      have := p2_sub_nat (e' + 1 + 52) 52
      have e1 : e' + 1 + 52 - ((52 : Nat) : Int) = e' + 1 := by omega
      rw [e1] at this
      rw [h5, this]
    have k1 := h.le_k hl
    have b1 := h.below
    rw [h6] at b1
    have c1 : (2 * (k : Rat) - 1) * p2 (e' + 1) ≤ (2 * ((2 ^ 52 : Nat) : Rat)) * p2 (e' + 1) := by grind
    have c3 := Rat.le_of_mul_le_mul_right c1 hp
    have c5 : ((2 * k : Nat) : Rat) ≤ ((2 * 2 ^ 52 + 1 : Nat) : Rat) := by
      have e1 : ((2 * k : Nat) : Rat) = 2 * (k : Rat) := by push_cast; rfl
      have e2 : ((2 * 2 ^ 52 + 1 : Nat) : Rat) = 2 * ((2 ^ 52 : Nat) : Rat) + 1 := by decide +kernel
      grind
    have c7 : 2 * k ≤ 2 * 2 ^ 52 + 1 := by exact_mod_cast c5
    have c9 : k = 2 ^ 52 := by omega
    rw [h.val, h6, c9]

open Classical in
noncomputable def rnd0 (x : Rat) : Rat := if h : 0 ≤ x then Classical.choose (exists_rnd x h) else 0
noncomputable def rnd (x : Rat) : Rat := if 0 ≤ x then rnd0 x else - rnd0 (-x)

theorem rnd0_spec {x : Rat} (h : 0 ≤ x) : ∃ k e, Rnd x (rnd0 x) k e := by
  unfold rnd0; rw [dif_pos h]; exact Classical.choose_spec (exists_rnd x h)
theorem rnd_spec {x : Rat} (h : 0 ≤ x) : ∃ k e, Rnd x (rnd x) k e := by
  unfold rnd; rw [if_pos h]; exact rnd0_spec h
theorem Rnd.eq {x y : Rat} {k : Nat} {e : Int} (h : Rnd x y k e) (hx : 0 ≤ x) : rnd x = y := by
  obtain ⟨k', e', h'⟩ := rnd_spec hx
  exact h'.uniq h
theorem rnd_zero : rnd 0 = 0 := by
  obtain ⟨k, e, h⟩ := rnd_spec (x := 0) (by decide)
  exact h.exact (m := 0) (e' := 0) (by omega) (by omega) (by grind)
theorem rnd_neg (x : Rat) : rnd (-x) = - rnd x := by
  by_cases h0 : x = 0
  · subst h0
    have := rnd_zero
    rw [Rat.neg_zero, this]; rfl
  · by_cases h : 0 ≤ x
    · have h1 : ¬ 0 ≤ -x := by grind
      unfold rnd; rw [if_pos h, if_neg h1, Rat.neg_neg]
    · have h1 : 0 ≤ -x := by grind
      unfold rnd; rw [if_neg h, if_pos h1, Rat.neg_neg]
theorem rnd_nonneg {x : Rat} (h : 0 ≤ x) : 0 ≤ rnd x := by
  obtain ⟨k, e, h'⟩ := rnd_spec h
  rw [h'.val]; exact Rat.mul_nonneg Rat.natCast_nonneg (Rat.le_of_lt (p2_pos e))
theorem rnd_mono {x y : Rat} (h : x ≤ y) : rnd x ≤ rnd y := by
  by_cases hx : 0 ≤ x
  · obtain ⟨k, e, h1⟩ := rnd_spec hx
    obtain ⟨k', e', h2⟩ := rnd_spec (x := y) (by grind)
    exact h1.mono h2 h
  · by_cases hy : 0 ≤ y
    · have := rnd_nonneg hy
      have h2 := rnd_nonneg (x := -x) (by grind)
      rw [rnd_neg] at h2
      grind
    · obtain ⟨k, e, h1⟩ := rnd_spec (x := -y) (by grind)
      obtain ⟨k', e', h2⟩ := rnd_spec (x := -x) (by grind)
      have := h1.mono h2 (by grind)
      rw [rnd_neg, rnd_neg] at this
      grind
theorem rnd_exact {x : Rat} (h : Rep x) : rnd x = x := by
  obtain ⟨m, e, he, hm, hx⟩ := h
  have hp := p2_pos e
  by_cases h0 : 0 ≤ m
  · obtain ⟨n, rfl⟩ := Int.eq_ofNat_of_zero_le h0
    have hx' : x = (n : Rat) * p2 e := by rw [hx, Rat.intCast_natCast]
    have hnn : 0 ≤ x := by rw [hx']; exact Rat.mul_nonneg Rat.natCast_nonneg (Rat.le_of_lt hp)
    obtain ⟨k, e', h1⟩ := rnd_spec hnn
    exact h1.exact he (by simpa using hm) hx'
  · obtain ⟨n, hn⟩ := Int.eq_ofNat_of_zero_le (a := -m) (by omega)
    have hx' : -x = (n : Rat) * p2 e := by
      have : (m : Rat) = -(n : Rat) := by
        have : m = -(n : Int) := by omega
        rw [this, Rat.intCast_neg, Rat.intCast_natCast]
      rw [hx, this]; grind
    have hnn : 0 ≤ -x := by rw [hx']; exact Rat.mul_nonneg Rat.natCast_nonneg (Rat.le_of_lt hp)
    obtain ⟨k, e', h1⟩ := rnd_spec hnn
    have := h1.exact he (by omega) hx'
    rw [rnd_neg] at this
    grind
theorem rnd_nonpos {x : Rat} (h : x ≤ 0) : rnd x ≤ 0 := by
  have := rnd_mono h; rw [rnd_zero] at this; exact this
theorem Rep.neg {x : Rat} (h : Rep x) : Rep (-x) := by
  obtain ⟨m, e, he, hm, hx⟩ := h
  exact ⟨-m, e, he, by omega, by rw [hx, Rat.intCast_neg]; grind⟩
theorem rep_rnd (x : Rat) : Rep (rnd x) := by
  have key : ∀ x : Rat, 0 ≤ x → Rep (rnd x) := by
    intro x hx
    obtain ⟨k, e, h⟩ := rnd_spec hx
    exact ⟨k, e, h.least, by have := h.k_le; omega, by rw [Rat.intCast_natCast]; exact h.val⟩
  by_cases hx : 0 ≤ x
  · exact key x hx
  · have := (key (-x) (by grind)).neg
    rw [rnd_neg, Rat.neg_neg] at this
    exact this
theorem rep_zero : Rep 0 := ⟨0, 0, by omega, by omega, by grind⟩
theorem rep_p2 {e : Int} (h : -1074 ≤ e) : Rep (p2 e) := ⟨1, e, h, by omega, by grind⟩
theorem rep_int {m : Int} (h : m.natAbs ≤ 2 ^ 53) : Rep (m : Rat) := ⟨m, 0, by omega, h, by rw [p2_zero]; grind⟩

/-- how far off: for 0 ≤ x, half a unit: either the least one or 2^-53 of the number -/
theorem rnd_err0 {x : Rat} (h : 0 ≤ x) : ∃ e : Int, -1074 ≤ e ∧ (e = -1074 ∨ p2 (e + 52) ≤ x) ∧ 2 * (rnd x - x) ≤ p2 e ∧ 2 * (x - rnd x) ≤ p2 e := by
  obtain ⟨k, e, h'⟩ := rnd_spec h
  refine ⟨e, h'.least, h'.low, ?_, ?_⟩
  · have := h'.below; rw [h'.val]; grind
  · have := h'.above; rw [h'.val]; grind
theorem rnd_err (x : Rat) (hx : 0 ≤ x) : (2 * (rnd x - x) ≤ x * p2 (-52) ∧ 2 * (x - rnd x) ≤ x * p2 (-52)) ∨ (x < p2 (-1022) ∧ 2 * (rnd x - x) ≤ p2 (-1074) ∧ 2 * (x - rnd x) ≤ p2 (-1074)) := by
  obtain ⟨e, h1, h2, h3, h4⟩ := rnd_err0 hx
  have main : p2 (e + 52) ≤ x → p2 e ≤ x * p2 (-52) := by
    intro h
    have h5 := Rat.mul_le_mul_of_nonneg_right h (Rat.le_of_lt (p2_pos (-52)))
    rw [← p2_add] at h5
    rw [show e + 52 + -52 = e by omega] at h5
    exact h5
  rcases h2 with rfl | h2
  · by_cases hc : x < p2 (-1022)
    · exact .inr ⟨hc, h3, h4⟩
    · have := main (by rw [show (-1074 : Int) + 52 = -1022 by omega]; grind)
      exact .inl ⟨by grind, by grind⟩
  · have := main h2
    exact .inl ⟨by grind, by grind⟩
end Lk
