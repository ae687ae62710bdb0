import Ieee.Arith
set_option autoImplicit false
namespace Lk
open Ieee

/-! powers of two over the rationals -/
def p2 (e : Int) : Rat := (2 : Rat) ^ e

theorem p2_pos (e : Int) : 0 < p2 e := by unfold p2; exact Rat.zpow_pos (by decide)
theorem p2_add (a b : Int) : p2 (a + b) = p2 a * p2 b := by unfold p2; exact Rat.zpow_add (by decide) a b
theorem p2_nat (n : Nat) : p2 (n : Int) = ((2 ^ n : Nat) : Rat) := by
  unfold p2; rw [Rat.zpow_natCast]; exact (Rat.natCast_pow 2 n).symm
theorem p2_zero : p2 0 = 1 := by unfold p2; exact Rat.zpow_zero _
theorem p2_one : p2 1 = 2 := by unfold p2; exact Rat.zpow_one _
theorem p2_succ (e : Int) : p2 (e + 1) = 2 * p2 e := by rw [p2_add, p2_one]; exact Rat.mul_comm _ _
theorem p2_neg (e : Int) : p2 e * p2 (-e) = 1 := by rw [← p2_add, Int.add_right_neg, p2_zero]
theorem p2_sub_nat (e : Int) (n : Nat) : p2 e = ((2 ^ n : Nat) : Rat) * p2 (e - n) := by
  rw [← p2_nat, ← p2_add]; congr 1; omega
theorem p2_le {a b : Int} (h : a ≤ b) : p2 a ≤ p2 b := by
  obtain ⟨n, rfl⟩ : ∃ n : Nat, b = a + n := ⟨(b - a).toNat, by omega⟩
  rw [p2_add, p2_nat]
  have h1 : (1 : Rat) ≤ ((2 ^ n : Nat) : Rat) := by
    have := Nat.one_le_two_pow (n := n)
    exact_mod_cast this
  have := Rat.mul_le_mul_of_nonneg_left h1 (Rat.le_of_lt (p2_pos a))
  grind
theorem p2_lt {a b : Int} (h : a < b) : p2 a < p2 b := by
  have h1 := p2_le (a := a + 1) (b := b) (by omega)
  rw [p2_succ] at h1
  have := p2_pos a
  grind
theorem p2_le_iff {a b : Int} : p2 a ≤ p2 b ↔ a ≤ b := by
  constructor
  · intro h
    by_cases hab : a ≤ b
    · exact hab
    · have := p2_lt (a := b) (b := a) (by omega)
      exfalso; grind
  · exact p2_le
theorem p2_lt_iff {a b : Int} : p2 a < p2 b ↔ a < b := by
  constructor
  · intro h
    by_cases hab : a < b
    · exact hab
    · have := p2_le (a := b) (b := a) (by omega)
      exfalso; grind
  · exact p2_lt

theorem mul_cancel {a b c : Rat} (hc : 0 < c) (h : a * c = b * c) : a = b := by
  have h6 : a ≤ b := Rat.le_of_mul_le_mul_right (c := c) (by rw [h]; exact Rat.le_refl) hc
  have h7 : b ≤ a := Rat.le_of_mul_le_mul_right (c := c) (by rw [h]; exact Rat.le_refl) hc
  exact Rat.le_antisymm h6 h7

/-- the size of the binade -/
theorem exists_p2 (x : Rat) (hx : 0 < x) : ∃ e : Int, p2 e ≤ x ∧ x < p2 (e + 1) := by
  have hn : 0 < x.num := by
    have := (Rat.lt_iff 0 x).1 hx
    simpa using this
  -- a power above and one below
  have up : ∃ n : Nat, x < p2 (n : Int) := by
    refine ⟨(x.floor + 1).toNat, ?_⟩
    have h1 := Rat.lt_floor_add_one x
    rw [p2_nat]
    have h3 : (x.floor + 1) ≤ (((2 ^ (x.floor + 1).toNat : Nat)) : Int) := by
      have := Nat.lt_two_pow_self (n := (x.floor + 1).toNat)
      omega
    have h4 : ((x.floor + 1 : Int) : Rat) ≤ (((2 ^ (x.floor + 1).toNat : Nat) : Int) : Rat) := by exact_mod_cast h3
    rw [Rat.intCast_natCast] at h4
    grind
  have down : ∃ n : Nat, p2 (-(n : Int)) ≤ x := by
    refine ⟨x.den, ?_⟩
    have hd : x = (x.num : Rat) / (x.den : Rat) := by
      have h := Rat.num_divInt_den x
      rw [Rat.divInt_eq_div] at h
      rw [Rat.intCast_natCast] at h
      exact h.symm
    have hdp : (0 : Rat) < (x.den : Rat) := by have := x.den_pos; exact_mod_cast this
    have h1 : (1 : Rat) ≤ (x.num : Rat) := by exact_mod_cast hn
    have h2 : (x.den : Rat) ≤ p2 (x.den : Int) := by
      rw [p2_nat]; have := Nat.le_of_lt (Nat.lt_two_pow_self (n := x.den)); exact_mod_cast this
    have h3 := p2_neg (x.den : Int)
    have h4 : x * (x.den : Rat) = x.num := by
      have hne : (x.den : Rat) ≠ 0 := by intro h; rw [h] at hdp; exact absurd hdp (by decide)
      calc x * (x.den : Rat) = (x.num : Rat) / (x.den : Rat) * (x.den : Rat) := by rw [← hd]
        _ = x.num := Rat.div_mul_cancel hne
    -- p2(-d) * d ≤ 1 ≤ x * d
    have h5 : p2 (-(x.den : Int)) * (x.den : Rat) ≤ x * (x.den : Rat) := by
      have := Rat.mul_le_mul_of_nonneg_left h2 (Rat.le_of_lt (p2_pos (-(x.den : Int))))
      grind
    exact Rat.le_of_mul_le_mul_right h5 hdp
  obtain ⟨N, hN⟩ := up
  obtain ⟨M, hM⟩ := down
  -- descend from N
  have key : ∀ k : Nat, x < p2 (-(M : Int) + k) → ∃ e : Int, p2 e ≤ x ∧ x < p2 (e + 1) := by
    intro k
    induction k with
    | zero => intro h; exfalso; simp at h; grind
    | succ k ih =>
      intro h
      by_cases hc : x < p2 (-(M : Int) + k)
      · exact ih hc
      · refine ⟨-(M : Int) + k, Rat.not_lt.1 hc, ?_⟩
        have e1 : -(M : Int) + (k : Int) + 1 = -(M : Int) + ((k + 1 : Nat) : Int) := by omega
        rw [e1]; exact h
  refine key (N + M) ?_
  have e2 : -(M : Int) + ((N + M : Nat) : Int) = (N : Int) := by omega
  rw [e2]; exact hN

/-! to the nearest whole number of units, ties to even -/
structure Rnd (x y : Rat) (k : Nat) (e : Int) : Prop where
  least : -1074 ≤ e
  low : e = -1074 ∨ p2 (e + 52) ≤ x
  high : x < p2 (e + 53)
  below : (2 * (k : Rat) - 1) * p2 e ≤ 2 * x
  above : 2 * x ≤ (2 * (k : Rat) + 1) * p2 e
  tieb : 2 * x = (2 * (k : Rat) - 1) * p2 e → k % 2 = 0
  tiea : 2 * x = (2 * (k : Rat) + 1) * p2 e → k % 2 = 0
  val : y = (k : Rat) * p2 e

theorem Rnd.k_le {x y : Rat} {k : Nat} {e : Int} (h : Rnd x y k e) : k ≤ 2 ^ 53 := by
  have h1 := h.below
  have h2 := h.high
  have hp := p2_pos e
  have h3 : p2 (e + 53) = ((2 ^ 53 : Nat) : Rat) * p2 e := by
    have := p2_sub_nat (e + 53) 53
    rw [this]; congr 2; omega
  rw [h3] at h2
  have h4 : (2 * (k : Rat) - 1) * p2 e < (2 * ((2 ^ 53 : Nat) : Rat)) * p2 e := by grind
  have h5 : 2 * (k : Rat) - 1 < 2 * ((2 ^ 53 : Nat) : Rat) := (Rat.mul_lt_mul_right hp).1 h4
  have h6 : 2 * (k : Rat) < ((2 * 2 ^ 53 + 1 : Nat) : Rat) := by
    have : ((2 * 2 ^ 53 + 1 : Nat) : Rat) = 2 * ((2 ^ 53 : Nat) : Rat) + 1 := by decide +kernel
    grind
  have h7 : 2 * k < 2 * 2 ^ 53 + 1 := by exact_mod_cast h6
  omega

theorem Rnd.le_k {x y : Rat} {k : Nat} {e : Int} (h : Rnd x y k e) (hl : p2 (e + 52) ≤ x) : 2 ^ 52 ≤ k := by
  have h1 := h.above
  have hp := p2_pos e
  have h3 : p2 (e + 52) = ((2 ^ 52 : Nat) : Rat) * p2 e := by
    have := p2_sub_nat (e + 52) 52
    rw [this]; congr 2; omega
  rw [h3] at hl
  have h4 : (2 * ((2 ^ 52 : Nat) : Rat)) * p2 e ≤ (2 * (k : Rat) + 1) * p2 e := by grind
  have h5 : 2 * ((2 ^ 52 : Nat) : Rat) ≤ 2 * (k : Rat) + 1 := Rat.le_of_mul_le_mul_right h4 hp
  have h6 : ((2 * 2 ^ 52 : Nat) : Rat) ≤ ((2 * k + 1 : Nat) : Rat) := by
    push_cast
    have : ((2 ^ 52 : Nat) : Rat) = (2 : Rat) ^ 52 := by push_cast; rfl
    grind
  have h7 : 2 * 2 ^ 52 ≤ 2 * k + 1 := by exact_mod_cast h6
  omega

theorem Rnd.mono {x y x' y' : Rat} {k k' : Nat} {e e' : Int} (h : Rnd x y k e) (h' : Rnd x' y' k' e') (hx : x ≤ x') : y ≤ y' := by
  rw [h.val, h'.val]
  rcases Int.lt_trichotomy e e' with he | he | he
  · have hl : p2 (e' + 52) ≤ x' := by
      rcases h'.low with h1 | h1
      · have := h.least; omega
      · exact h1
    have a1 := h.k_le
    have a2 := h'.le_k hl
    have a3 : (k : Rat) * p2 e ≤ p2 (e + 53) := by
      have := p2_sub_nat (e + 53) 53
      have e1 : e + 53 - ((53 : Nat) : Int) = e := by omega
      rw [e1] at this
      rw [this]
      have : (k : Rat) ≤ ((2 ^ 53 : Nat) : Rat) := by exact_mod_cast a1
      exact Rat.mul_le_mul_of_nonneg_right this (Rat.le_of_lt (p2_pos e))
    have a4 : p2 (e' + 52) ≤ (k' : Rat) * p2 e' := by
      have := p2_sub_nat (e' + 52) 52
      have e1 : e' + 52 - ((52 : Nat) : Int) = e' := by omega
      rw [e1] at this
      rw [this]
      have : ((2 ^ 52 : Nat) : Rat) ≤ (k' : Rat) := by exact_mod_cast a2
      exact Rat.mul_le_mul_of_nonneg_right this (Rat.le_of_lt (p2_pos e'))
    have a5 := p2_le (a := e + 53) (b := e' + 52) (by omega)
    grind
  · subst he
    have hp := p2_pos e
    have b1 := h.below
    have b2 := h'.above
    have c1 : (2 * (k : Rat) - 1) * p2 e ≤ (2 * (k' : Rat) + 1) * p2 e := by grind
    have c2 : 2 * (k : Rat) - 1 ≤ 2 * (k' : Rat) + 1 := Rat.le_of_mul_le_mul_right c1 hp
    have c3 : ((2 * k : Nat) : Rat) ≤ ((2 * k' + 2 : Nat) : Rat) := by
      have e1 : ((2 * k : Nat) : Rat) = 2 * (k : Rat) := by push_cast; rfl
      have e2 : ((2 * k' + 2 : Nat) : Rat) = 2 * (k' : Rat) + 2 := by push_cast; rfl
      grind
    have c4 : 2 * k ≤ 2 * k' + 2 := by exact_mod_cast c3
    by_cases hk : k ≤ k'
    · have : (k : Rat) ≤ (k' : Rat) := by exact_mod_cast hk
      exact Rat.mul_le_mul_of_nonneg_right this (Rat.le_of_lt hp)
    · exfalso
      obtain rfl : k = k' + 1 := by omega
      have e3 : ((k' + 1 : Nat) : Rat) = (k' : Rat) + 1 := by push_cast; rfl
      rw [e3] at b1
      have t1 : 2 * x = (2 * ((k' + 1 : Nat) : Rat) - 1) * p2 e := by rw [e3]; grind
      have t2 : 2 * x' = (2 * (k' : Rat) + 1) * p2 e := by grind
      have := h.tieb t1
      have := h'.tiea t2
      omega
  · exfalso
    have hl : p2 (e + 52) ≤ x := by
      rcases h.low with h1 | h1
      · have := h'.least; omega
      · exact h1
    have := h'.high
    have := p2_le (a := e' + 53) (b := e + 52) (by omega)
    grind

theorem Rnd.uniq {x y y' : Rat} {k k' : Nat} {e e' : Int} (h : Rnd x y k e) (h' : Rnd x y' k' e') : y = y' :=
  Rat.le_antisymm (h.mono h' Rat.le_refl) (h'.mono h Rat.le_refl)

theorem exists_near (z : Rat) (hz : 0 ≤ z) : ∃ k : Nat, 2 * (k : Rat) - 1 ≤ 2 * z ∧ 2 * z ≤ 2 * (k : Rat) + 1 ∧ (2 * z = 2 * (k : Rat) - 1 → k % 2 = 0) ∧ (2 * z = 2 * (k : Rat) + 1 → k % 2 = 0) := by
  obtain ⟨f, hf⟩ : ∃ f : Nat, z.floor = f := ⟨z.floor.toNat, by
    have : (0 : Int) ≤ z.floor := Rat.le_floor_iff.2 (by exact_mod_cast hz)
    omega⟩
  have h1 := Rat.floor_le z
  have h2 := Rat.lt_floor_add_one z
  rw [hf] at h1 h2
  have e1 : ((f : Int) : Rat) = (f : Rat) := Rat.intCast_natCast f
  have e2 : (((f : Int) + 1 : Int) : Rat) = (f : Rat) + 1 := by push_cast; rfl
  have e3 : ((f + 1 : Nat) : Rat) = (f : Rat) + 1 := by push_cast; rfl
  rw [e1] at h1
  rw [e2] at h2
  by_cases hc : 2 * z < 2 * (f : Rat) + 1
  · exact ⟨f, by grind, by grind, by grind, by grind⟩
  · by_cases hc2 : 2 * z = 2 * (f : Rat) + 1
    · by_cases hp : f % 2 = 0
      · exact ⟨f, by grind, by grind, fun _ => hp, fun _ => hp⟩
      · exact ⟨f + 1, by grind, by grind, fun _ => by omega, fun _ => by omega⟩
    · exact ⟨f + 1, by grind, by grind, by grind, by grind⟩

theorem exists_rnd (x : Rat) (hx : 0 ≤ x) : ∃ y k e, Rnd x y k e := by
  have hE : ∃ e : Int, -1074 ≤ e ∧ (e = -1074 ∨ p2 (e + 52) ≤ x) ∧ x < p2 (e + 53) := by
    by_cases h0 : x < p2 (-1074 + 53)
    · exact ⟨-1074, by omega, .inl rfl, h0⟩
    · have hpos : 0 < x := by have := p2_pos (-1074 + 53); grind
      obtain ⟨E, h1, h2⟩ := exists_p2 x hpos
      have h3 : -1074 + 53 < E + 1 := p2_lt_iff.1 (by grind)
      refine ⟨E - 52, by omega, .inr ?_, ?_⟩
      · rw [show E - 52 + 52 = E by omega]; exact h1
      · rw [show E - 52 + 53 = E + 1 by omega]; exact h2
  obtain ⟨e, h1, h2, h3⟩ := hE
  have hp := p2_pos e
  have hq := p2_pos (-e)
  have hpq := p2_neg e
  obtain ⟨k, a, b, c, d⟩ := exists_near (x * p2 (-e)) (Rat.mul_nonneg hx (Rat.le_of_lt hq))
  have hz : x = x * p2 (-e) * p2 e := by grind
  generalize x * p2 (-e) = z at *
  refine ⟨k * p2 e, k, e, h1, h2, h3, ?_, ?_, ?_, ?_, rfl⟩
  · rw [hz]; have := Rat.mul_le_mul_of_nonneg_right a (Rat.le_of_lt hp); grind
  · rw [hz]; have := Rat.mul_le_mul_of_nonneg_right b (Rat.le_of_lt hp); grind
  · intro h; apply c
    have h5 : (2 * z) * p2 e = (2 * (k : Rat) - 1) * p2 e := by grind
    exact mul_cancel hp h5
  · intro h; apply d
    have h5 : (2 * z) * p2 e = (2 * (k : Rat) + 1) * p2 e := by grind
    exact mul_cancel hp h5
end Lk
