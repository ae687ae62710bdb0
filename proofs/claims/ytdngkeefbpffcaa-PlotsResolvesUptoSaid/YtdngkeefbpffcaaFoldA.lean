import Derived.WalkKit
set_option autoImplicit false
set_option linter.unusedVariables false
namespace Fo
open Go Go.RowKit
/-! Euclid's rows, as the program and the document reckon them (64 bits, running over) -/
structure Row where
  g : Int
  x : Int
  y : Int
def stp (one two : Row) : Row :=
  ⟨wrap64 (one.g - wrap64 (one.g / two.g * two.g)), wrap64 (one.x - wrap64 (one.g / two.g * two.x)), wrap64 (one.y - wrap64 (one.g / two.g * two.y))⟩
def eul : Nat → Row → Row → Row
  | 0, one, _ => one
  | k + 1, one, two => if two.g = 0 then one else eul k two (stp one two)
/-- equal but for multiples of 2^64 -/
def Cg (u v : Int) : Prop := ∃ c : Int, u = v + c * 18446744073709551616
theorem Cg.refl (u : Int) : Cg u u := ⟨0, by omega⟩
theorem Cg.symm {u v : Int} (h : Cg u v) : Cg v u := by obtain ⟨c, h⟩ := h; exact ⟨-c, by omega⟩
theorem Cg.trans {u v w : Int} (h : Cg u v) (k : Cg v w) : Cg u w := by
  obtain ⟨c, h⟩ := h; obtain ⟨d, k⟩ := k; exact ⟨c + d, by omega⟩
theorem Cg.add {u v u' v' : Int} (h : Cg u v) (k : Cg u' v') : Cg (u + u') (v + v') := by
  obtain ⟨c, h⟩ := h; obtain ⟨d, k⟩ := k; exact ⟨c + d, by omega⟩
theorem Cg.sub {u v u' v' : Int} (h : Cg u v) (k : Cg u' v') : Cg (u - u') (v - v') := by
  obtain ⟨c, h⟩ := h; obtain ⟨d, k⟩ := k; exact ⟨c - d, by omega⟩
theorem Cg.mul {u v u' v' : Int} (h : Cg u v) (k : Cg u' v') : Cg (u * u') (v * v') := by
  obtain ⟨c, rfl⟩ := h; obtain ⟨d, rfl⟩ := k
  refine ⟨v * d + c * v' + c * d * 18446744073709551616, ?_⟩
  grind
theorem cg_wrap (z : Int) : Cg (wrap64 z) z := by
  unfold wrap64
  refine ⟨-((z + 9223372036854775808) / 18446744073709551616), ?_⟩
  omega
theorem cg_eq {u v : Int} (h : Cg u v) (u1 : -9223372036854775808 ≤ u) (u2 : u ≤ 9223372036854775807) (v1 : -9223372036854775808 ≤ v) (v2 : v ≤ 9223372036854775807) : u = v := by
  obtain ⟨c, h⟩ := h; omega
theorem wrap_range (z : Int) : -9223372036854775808 ≤ wrap64 z ∧ wrap64 z ≤ 9223372036854775807 := by unfold wrap64; omega
theorem wrap_self {z : Int} (h1 : -9223372036854775808 ≤ z) (h2 : z ≤ 9223372036854775807) : wrap64 z = z := by unfold wrap64; omega
/-- the remainder -/
theorem stp_g {one two : Row} (h1 : 0 ≤ one.g) (h2 : one.g ≤ 9223372036854775807) (h3 : 0 < two.g) : (stp one two).g = one.g % two.g ∧ 0 ≤ one.g % two.g ∧ one.g % two.g < two.g := by
  have e := Int.emod_add_mul_ediv one.g two.g
  have r0 := Int.emod_nonneg one.g (show two.g ≠ 0 by omega)
  have r1 := Int.emod_lt_of_pos one.g h3
  have q0 : 0 ≤ one.g / two.g := Int.ediv_nonneg h1 (by omega)
  have p0 : 0 ≤ one.g / two.g * two.g := Int.mul_nonneg q0 (by omega)
  have e2 : one.g / two.g * two.g = two.g * (one.g / two.g) := Int.mul_comm _ _
  refine ⟨?_, r0, r1⟩
  show wrap64 (one.g - wrap64 (one.g / two.g * two.g)) = _
  rw [wrap_self (z := one.g / two.g * two.g) (by omega) (by omega), wrap_self (by omega) (by omega)]
  omega
/-- what both numbers' rows keep: a x + b y is g -/
def Ln (a b : Int) (r : Row) : Prop := Cg (a * r.x + b * r.y) r.g
theorem ln_stp {a b : Int} {one two : Row} (h : Ln a b one) (k : Ln a b two) : Ln a b (stp one two) := by
  unfold Ln at *
  have hx : Cg (stp one two).x (one.x - one.g / two.g * two.x) := (cg_wrap _).trans ((Cg.refl _).sub (cg_wrap _))
  have hy : Cg (stp one two).y (one.y - one.g / two.g * two.y) := (cg_wrap _).trans ((Cg.refl _).sub (cg_wrap _))
  have hg : Cg (stp one two).g (one.g - one.g / two.g * two.g) := (cg_wrap _).trans ((Cg.refl _).sub (cg_wrap _))
  refine (((Cg.refl a).mul hx).add ((Cg.refl b).mul hy)).trans ?_
  refine Cg.trans ?_ hg.symm
  have e : a * (one.x - one.g / two.g * two.x) + b * (one.y - one.g / two.g * two.y) = (a * one.x + b * one.y) - one.g / two.g * (a * two.x + b * two.y) := by grind
  rw [e]
  exact h.sub ((Cg.refl _).mul k)
/-- the rows to the end: enough rounds, the greatest common divisor, and how it is made -/
theorem eul_spec (a b : Int) : ∀ (k : Nat) (one two : Row), two.g.toNat < k → 0 ≤ one.g → one.g ≤ 9223372036854775807 → 0 ≤ two.g → two.g ≤ 9223372036854775807 → Ln a b one → Ln a b two →
    (eul k one two).g = Int.gcd one.g two.g ∧ Ln a b (eul k one two)
  | 0, _, _, h, _, _, _, _, _, _ => by omega
  | k + 1, one, two, h, h1, h2, h3, h4, l1, l2 => by
    unfold eul
    by_cases h0 : two.g = 0
    · rw [if_pos h0, h0, Int.gcd_zero_right]
      exact ⟨by omega, l1⟩
    · rw [if_neg h0]
      obtain ⟨e, r0, r1⟩ := stp_g (one := one) (two := two) h1 h2 (by omega)
      obtain ⟨g1, g2⟩ := eul_spec a b k two (stp one two) (by rw [e]; omega) h3 h4 (by rw [e]; exact r0) (by rw [e]; omega) l2 (ln_stp l1 l2)
      refine ⟨?_, g2⟩
      have hg := Int.gcd_add_mul_left_right two.g (one.g % two.g) (one.g / two.g)
      rw [Int.emod_add_mul_ediv] at hg
      rw [g1, e, ← hg, Int.gcd_comm]
/-- more rounds change nothing -/
theorem eul_more : ∀ (k j : Nat) (one two : Row), two.g.toNat < k → k ≤ j → 0 ≤ one.g → one.g ≤ 9223372036854775807 → 0 ≤ two.g → two.g ≤ 9223372036854775807 → eul j one two = eul k one two
  | 0, _, _, _, h, _, _, _, _, _ => by omega
  | k + 1, 0, _, _, _, h, _, _, _, _ => by omega
  | k + 1, j + 1, one, two, h, hj, h1, h2, h3, h4 => by
    unfold eul
    by_cases h0 : two.g = 0
    · rw [if_pos h0, if_pos h0]
    · rw [if_neg h0, if_neg h0]
      obtain ⟨e, r0, r1⟩ := stp_g (one := one) (two := two) h1 h2 (by omega)
      exact eul_more k j two (stp one two) (by rw [e]; omega) (by omega) h3 h4 (by rw [e]; exact r0) (by rw [e]; omega)
/-- the greatest common divisor of two numbers, as it comes out -/
def gcdR (a b : Int) : Row := eul (b.toNat + 1) ⟨a, 1, 0⟩ ⟨b, 0, 1⟩
theorem gcdR_spec {a b : Int} (h1 : 0 ≤ a) (h2 : a ≤ 9223372036854775807) (h3 : 0 ≤ b) (h4 : b ≤ 9223372036854775807) :
    (gcdR a b).g = Int.gcd a b ∧ Cg (a * (gcdR a b).x + b * (gcdR a b).y) (gcdR a b).g :=
  eul_spec a b (b.toNat + 1) ⟨a, 1, 0⟩ ⟨b, 0, 1⟩ (by simp) h1 h2 h3 h4 ⟨0, by simp⟩ ⟨0, by simp⟩
/-- what FoldDivides asks of it -/
theorem gcdR_divides {a b : Int} (h1 : 0 ≤ a) (h2 : a ≤ 1099511627776) (h3 : 0 ≤ b) (h4 : b ≤ 1099511627776) :
    0 ≤ (gcdR a b).g ∧ ((gcdR a b).g = 0 ↔ a = 0 ∧ b = 0) ∧ (0 < (gcdR a b).g → a % (gcdR a b).g = 0 ∧ b % (gcdR a b).g = 0) ∧ wrap64 (wrap64 (a * (gcdR a b).x) + wrap64 (b * (gcdR a b).y)) = (gcdR a b).g := by
  obtain ⟨g1, g2⟩ := gcdR_spec h1 (by omega) h3 (by omega)
  have hle : (gcdR a b).g ≤ 1099511627776 := by
    rw [g1]
    by_cases h0 : a = 0
    · rw [h0, Int.gcd_zero_left]; omega
    · have := Int.le_of_dvd (by omega) (Int.gcd_dvd_left a b)
      omega
  refine ⟨by rw [g1]; omega, ?_, fun h => ?_, ?_⟩
  · rw [g1]
    constructor
    · intro h
      have h : Int.gcd a b = 0 := by omega
      exact Int.gcd_eq_zero_iff.1 h
    · rintro ⟨rfl, rfl⟩; rfl
  · rw [g1]
    exact ⟨Int.emod_eq_zero_of_dvd (Int.gcd_dvd_left a b), Int.emod_eq_zero_of_dvd (Int.gcd_dvd_right a b)⟩
  · obtain ⟨w1, w2⟩ := wrap_range (wrap64 (a * (gcdR a b).x) + wrap64 (b * (gcdR a b).y))
    have g0 : 0 ≤ (gcdR a b).g := by rw [g1]; omega
    exact cg_eq (((cg_wrap _).trans ((cg_wrap _).add (cg_wrap _))).trans g2) w1 w2 (by omega) (by omega)
/-! nothing runs over: the rows are exact -/
def Nb (a b s : Int) (one two : Row) : Prop :=
  ∃ X0 X1 Y0 Y1 : Int, (0 ≤ X0 ∧ 0 ≤ X1 ∧ 0 ≤ Y0 ∧ 0 ≤ Y1) ∧ (one.x = s * X0 ∧ two.x = -s * X1 ∧ one.y = -s * Y0 ∧ two.y = s * Y1) ∧
    X1 * one.g + X0 * two.g = b ∧ Y1 * one.g + Y0 * two.g = a ∧ a * one.x + b * one.y = one.g ∧ a * two.x + b * two.y = two.g
theorem small_wrap {s Z b : Int} (hs : s = 1 ∨ s = -1) (h0 : 0 ≤ Z) (h1 : Z ≤ b) (hb : b ≤ 4611686018427387904) : wrap64 (s * Z) = s * Z := by
  rcases hs with rfl | rfl <;> exact wrap_self (by omega) (by omega)
theorem nb_stp {a b s : Int} {one two : Row} (hs : s = 1 ∨ s = -1) (ha : a ≤ 4611686018427387904) (hb : b ≤ 4611686018427387904) (h1 : 0 ≤ one.g) (h2 : one.g ≤ 9223372036854775807) (h3 : 0 < two.g) (h : Nb a b s one two) : Nb a b (-s) two (stp one two) := by
  obtain ⟨X0, X1, Y0, Y1, ⟨p0, p1, p2, p3⟩, ⟨e0, e1, e2, e3⟩, d1, d2, l1, l2⟩ := h
  obtain ⟨eg, r0, r1⟩ := stp_g (one := one) (two := two) h1 h2 h3
  have em := Int.emod_add_mul_ediv one.g two.g
  have q0 : 0 ≤ one.g / two.g := Int.ediv_nonneg h1 (by omega)
  generalize hq : one.g / two.g = q at *
  generalize hr : one.g % two.g = r at *
  have gq : one.g = r + two.g * q := em.symm
  -- the new numbers
  have X2 : 0 ≤ X0 + q * X1 := by have := Int.mul_nonneg q0 p1; omega
  have Y2 : 0 ≤ Y0 + q * Y1 := by have := Int.mul_nonneg q0 p3; omega
  have D1 : X1 * r + (X0 + q * X1) * two.g = b := by rw [← d1, gq]; grind
  have D2 : Y1 * r + (Y0 + q * Y1) * two.g = a := by rw [← d2, gq]; grind
  have bX : X0 + q * X1 ≤ b := by
    have a1 := Int.mul_nonneg p1 r0
    have a2 := Int.mul_le_mul_of_nonneg_left (show 1 ≤ two.g by omega) X2
    omega
  have bY : Y0 + q * Y1 ≤ a := by
    have a1 := Int.mul_nonneg p3 r0
    have a2 := Int.mul_le_mul_of_nonneg_left (show 1 ≤ two.g by omega) Y2
    omega
  have qX : 0 ≤ q * X1 := Int.mul_nonneg q0 p1
  have qY : 0 ≤ q * Y1 := Int.mul_nonneg q0 p3
  have hs' : -s = 1 ∨ -s = -1 := by omega
  have nx : (stp one two).x = s * (X0 + q * X1) := by
    show wrap64 (one.x - wrap64 (one.g / two.g * two.x)) = _
    rw [hq, e0, e1, show q * (-s * X1) = -s * (q * X1) by grind, small_wrap hs' qX (by omega) hb, show s * X0 - -s * (q * X1) = s * (X0 + q * X1) by grind, small_wrap hs X2 bX hb]
  have ny : (stp one two).y = -s * (Y0 + q * Y1) := by
    show wrap64 (one.y - wrap64 (one.g / two.g * two.y)) = _
    rw [hq, e2, e3, show q * (s * Y1) = s * (q * Y1) by grind, small_wrap hs qY (by omega) ha, show -s * Y0 - s * (q * Y1) = -s * (Y0 + q * Y1) by grind, small_wrap hs' Y2 bY ha]
  refine ⟨X1, X0 + q * X1, Y1, Y0 + q * Y1, ⟨p1, X2, p3, Y2⟩, ⟨e1, by rw [nx]; grind, by rw [e3]; grind, by rw [ny]⟩, ?_, ?_, l2, ?_⟩
  · rw [eg]; grind
  · rw [eg]; grind
  · rw [eg, nx, ny]
    have : r = one.g - two.g * q := by omega
    rw [this, ← l1, ← l2, e0, e1, e2, e3]
    grind
theorem eul_exact (a b : Int) (ha : a ≤ 4611686018427387904) (hb : b ≤ 4611686018427387904) : ∀ (k : Nat) (s : Int) (one two : Row), (s = 1 ∨ s = -1) → two.g.toNat < k → 0 ≤ one.g → one.g ≤ 9223372036854775807 → 0 ≤ two.g → two.g ≤ 9223372036854775807 → Nb a b s one two →
    a * (eul k one two).x + b * (eul k one two).y = (eul k one two).g
  | 0, _, _, _, _, h, _, _, _, _, _ => by omega
  | k + 1, s, one, two, hs, h, h1, h2, h3, h4, hn => by
    unfold eul
    by_cases h0 : two.g = 0
    · rw [if_pos h0]
      obtain ⟨_, _, _, _, _, _, _, _, l1, _⟩ := hn
      exact l1
    · rw [if_neg h0]
      obtain ⟨e, r0, r1⟩ := stp_g (one := one) (two := two) h1 h2 (by omega)
      exact eul_exact a b ha hb k (-s) two (stp one two) (by omega) (by rw [e]; omega) h3 h4 (by rw [e]; exact r0) (by rw [e]; omega) (nb_stp hs ha hb h1 h2 (by omega) hn)
/-- BEZOUT, exactly -/
theorem gcdR_exact {a b : Int} (h1 : 0 ≤ a) (h2 : a ≤ 4611686018427387904) (h3 : 0 ≤ b) (h4 : b ≤ 4611686018427387904) : a * (gcdR a b).x + b * (gcdR a b).y = Int.gcd a b := by
  have hn : Nb a b 1 ⟨a, 1, 0⟩ ⟨b, 0, 1⟩ := ⟨1, 0, 0, 1, by omega, by simp, by simp, by simp, by simp, by simp⟩
  have e := eul_exact a b h2 h4 (b.toNat + 1) 1 ⟨a, 1, 0⟩ ⟨b, 0, 1⟩ (.inl rfl) (by simp) h1 (show a ≤ _ by omega) h3 (show b ≤ _ by omega) hn
  obtain ⟨g1, _⟩ := gcdR_spec h1 (by omega) h3 (by omega)
  rw [← g1]
  exact e
/-- what Join does with one remainder: the number so far, the common multiple so far -/
def own (all m : Int) : Int := m / (gcdR all m).g
def lack (x r m : Int) : Int := r % m - x % m
def tms (x all r m : Int) : Int := (lack x r m / (gcdR all m).g % own all m * ((gcdR all m).x % own all m)) % own all m
theorem join_step {x all r m : Int} (x0 : 0 ≤ x) (x1 : x < all) (a1 : all ≤ 4611686018427387904) (m0 : 1 ≤ m) (m1 : m ≤ 1099511627776) (hd : lack x r m % (gcdR all m).g = 0) :
    0 ≤ x + all * tms x all r m ∧ x + all * tms x all r m < all * own all m ∧ (x + all * tms x all r m) % m = r % m ∧ (x + all * tms x all r m) % all = x ∧ 1 ≤ own all m ∧ own all m ≤ m ∧ all * own all m = Int.lcm all m := by
  have a0 : 0 < all := by omega
  obtain ⟨gs, _⟩ := gcdR_spec (a := all) (b := m) (by omega) (by omega) (by omega) (by omega)
  have bz := gcdR_exact (a := all) (b := m) (by omega) a1 (by omega) (by omega)
  obtain ⟨A, hA⟩ := Int.gcd_dvd_left all m
  obtain ⟨B, hB⟩ := Int.gcd_dvd_right all m
  have g0 : 0 < (Int.gcd all m : Int) := by
    have : Int.gcd all m ≠ 0 := fun h => by have := Int.gcd_eq_zero_iff.1 h; omega
    omega
  unfold tms own lack at *
  rw [gs] at hd ⊢
  have hl : (Int.gcd all m : Int) * (Int.lcm all m : Int) = all * m := by
    have h := Int.gcd_mul_lcm all m
    have h2 : ((Int.gcd all m * Int.lcm all m : Nat) : Int) = ((all.natAbs * m.natAbs : Nat) : Int) := by rw [h]
    rw [Int.natCast_mul, Int.natCast_mul] at h2
    rw [h2, Int.natAbs_of_nonneg (by omega), Int.natAbs_of_nonneg (by omega)]
  generalize (Int.lcm all m : Int) = l at *
  generalize (gcdR all m).x = p at *
  generalize (gcdR all m).y = y at *
  generalize (Int.gcd all m : Int) = g at *
  have hm : m / g = B := by rw [hB]; exact Int.mul_ediv_cancel_left B (by omega)
  rw [hm]
  have A0 : 0 < A := by
    apply Decidable.byContradiction
    intro h
    have := Int.mul_nonneg (show 0 ≤ g by omega) (show 0 ≤ -A by omega)
    rw [Int.mul_neg, ← hA] at this
    omega
  have B0 : 0 < B := by
    apply Decidable.byContradiction
    intro h
    have := Int.mul_nonneg (show 0 ≤ g by omega) (show 0 ≤ -B by omega)
    rw [Int.mul_neg, ← hB] at this
    omega
  have hb1 : A * p + B * y = 1 := by
    refine Int.eq_of_mul_eq_mul_left (show g ≠ 0 by omega) ?_
    rw [Int.mul_one, Int.mul_add, ← Int.mul_assoc, ← Int.mul_assoc, ← hA, ← hB]
    exact bz
  obtain ⟨L, hL⟩ := Int.dvd_of_emod_eq_zero hd
  have hq : (r % m - x % m) / g = L := by rw [hL]; exact Int.mul_ediv_cancel_left L (by omega)
  rw [hq, ← Int.mul_emod]
  have t0 := Int.emod_nonneg (L * p) (show B ≠ 0 by omega)
  have t1 := Int.emod_lt_of_pos (L * p) B0
  have te := Int.emod_add_mul_ediv (L * p) B
  generalize (L * p) % B = t at *
  generalize L * p / B = c at *
  have at0 : 0 ≤ all * t := Int.mul_nonneg (by omega) t0
  have at1 : all * t ≤ all * (B - 1) := Int.mul_le_mul_of_nonneg_left (by omega) (by omega)
  have at2 : all * (B - 1) = all * B - all := by rw [Int.mul_sub, Int.mul_one]
  refine ⟨by omega, by omega, ?_, ?_, by omega, ?_, ?_⟩
  · have ex := Int.emod_add_mul_ediv x m
    have er := Int.emod_add_mul_ediv r m
    have key : x + all * t = r + m * (x / m - r / m + (-(L * y) - A * c)) := by
      have k1 : all * t - g * L = m * (-(L * y) - A * c) := by
        have hyb : B * y = 1 - A * p := by omega
        have ht : t = L * p - B * c := by omega
        rw [ht]
        have : all * (L * p - B * c) - g * L = g * (L * (A * p - 1) - A * (B * c)) := by rw [hA]; grind
        rw [this, show A * p - 1 = -(B * y) by omega]
        rw [show m * (-(L * y) - A * c) = g * B * (-(L * y) - A * c) by rw [← hB]]
        grind
      have k2 : x - r = m * (x / m - r / m) - g * L := by
        rw [Int.mul_sub]; omega
      rw [Int.mul_add]
      omega
    rw [key, Int.add_mul_emod_self_left]
  · rw [Int.add_mul_emod_self_left, Int.emod_eq_of_lt x0 x1]
  · have := Int.mul_le_mul_of_nonneg_right (show 1 ≤ g by omega) (show 0 ≤ B by omega)
    omega
  · refine Int.eq_of_mul_eq_mul_left (show g ≠ 0 by omega) ?_
    rw [hl, show m = g * B from hB]
    grind
/-- one number alone below the common multiple -/
theorem crt_unique {all m u v : Int} (h0 : 0 ≤ u) (h1 : u < Int.lcm all m) (h2 : 0 ≤ v) (h3 : v < Int.lcm all m) (ha : u % all = v % all) (hm : u % m = v % m) : u = v := by
  have da : all ∣ u - v := Int.dvd_of_emod_eq_zero (Int.emod_eq_emod_iff_emod_sub_eq_zero.1 ha)
  have dm : m ∣ u - v := Int.dvd_of_emod_eq_zero (Int.emod_eq_emod_iff_emod_sub_eq_zero.1 hm)
  have dl : (Int.lcm all m : Int) ∣ u - v := Int.coe_lcm_dvd da dm
  obtain ⟨c, hc⟩ := dl
  generalize (Int.lcm all m : Int) = l at *
  by_cases c0 : c = 0
  · rw [c0, Int.mul_zero] at hc; omega
  · exfalso
    by_cases cp : 0 < c
    · have := Int.mul_le_mul_of_nonneg_left (show 1 ≤ c by omega) (show 0 ≤ l by omega)
      omega
    · have := Int.mul_le_mul_of_nonneg_left (show c ≤ -1 by omega) (show 0 ≤ l by omega)
      omega
/-- what is refused as unlike has no number -/
theorem join_none {x all r m z : Int} (m0 : 1 ≤ m) (m1 : m ≤ 1099511627776) (a0 : 1 ≤ all) (a1 : all ≤ 4611686018427387904) (h1 : z % all = x % all) (h2 : z % m = r % m) : lack x r m % (gcdR all m).g = 0 := by
  obtain ⟨gs, _⟩ := gcdR_spec (a := all) (b := m) (by omega) (by omega) (by omega) (by omega)
  have da : all ∣ z - x := Int.dvd_of_emod_eq_zero (Int.emod_eq_emod_iff_emod_sub_eq_zero.1 h1)
  have ga : (Int.gcd all m : Int) ∣ z - x := Int.dvd_trans (Int.gcd_dvd_left all m) da
  have gm := Int.gcd_dvd_right all m
  unfold lack
  rw [gs, ← h2]
  apply Int.emod_eq_zero_of_dvd
  have e1 := Int.emod_add_mul_ediv z m
  have e2 := Int.emod_add_mul_ediv x m
  have : z % m - x % m = (z - x) - m * (z / m - x / m) := by rw [Int.mul_sub]; omega
  rw [this]
  exact Int.dvd_sub ga (Int.dvd_trans gm (Int.dvd_mul_right m _))
/-! products modulo m, by doubling (the document's) -/
def pls (a b m : Int) : Int := if m - b ≤ a then a - (m - b) else a + b
theorem pls_eq {a b m : Int} (a0 : 0 ≤ a) (a1 : a < m) (b0 : 0 ≤ b) (b1 : b < m) : pls a b m = (a + b) % m ∧ 0 ≤ pls a b m ∧ pls a b m < m := by
  unfold pls
  by_cases h : m - b ≤ a
  · rw [if_pos h]
    have e : (a + b) % m = a - (m - b) := by
      rw [show a + b = (a - (m - b)) + m * 1 by omega, Int.add_mul_emod_self_left, Int.emod_eq_of_lt (by omega) (by omega)]
    exact ⟨e.symm, by omega, by omega⟩
  · rw [if_neg h]
    exact ⟨(Int.emod_eq_of_lt (by omega) (by omega)).symm, by omega, by omega⟩
def dbl : Nat → Int → Int → Int → Int → Int
  | 0, s, _, _, _ => s
  | k + 1, s, a, b, m => if 0 < b then dbl k (if b % 2 = 1 then pls s a m else s) (pls a a m) (b / 2) m else s
theorem dbl_eq : ∀ (k : Nat) (s a b m : Int), 0 ≤ s → s < m → 0 ≤ a → a < m → 0 ≤ b → b < 2 ^ k → dbl k s a b m = (s + a * b) % m
  | 0, s, a, b, m, s0, s1, a0, a1, b0, b1 => by
    have : b = 0 := by omega
    subst this
    unfold dbl
    rw [Int.mul_zero, Int.add_zero, Int.emod_eq_of_lt s0 s1]
  | k + 1, s, a, b, m, s0, s1, a0, a1, b0, b1 => by
    unfold dbl
    by_cases h : 0 < b
    · rw [if_pos h]
      obtain ⟨p1, p2, p3⟩ := pls_eq (a := a) (b := a) (m := m) a0 a1 a0 a1
      obtain ⟨q1, q2, q3⟩ := pls_eq (a := s) (b := a) (m := m) s0 s1 a0 a1
      have hb : b / 2 < 2 ^ k := by
        have : (2 : Int) ^ (k + 1) = 2 ^ k * 2 := by rw [Int.pow_succ]
        omega
      have e2 := Int.emod_add_mul_ediv b 2
      have step : ∀ s', 0 ≤ s' → s' < m → dbl k s' (pls a a m) (b / 2) m = (s' + (a + a) * (b / 2)) % m := by
        intro s' h0 h1
        rw [dbl_eq k s' (pls a a m) (b / 2) m h0 h1 p2 p3 (by omega) hb, p1, Int.add_emod, Int.mul_emod, Int.emod_emod_of_dvd _ (Int.dvd_refl m), ← Int.mul_emod, ← Int.add_emod]
      by_cases hp : b % 2 = 1
      · rw [if_pos hp, step _ q2 q3, q1]
        rw [Int.add_emod, Int.emod_emod_of_dvd _ (Int.dvd_refl m), ← Int.add_emod]
        congr 1
        have : a * b = a + (a + a) * (b / 2) := by
          rw [show b = 1 + 2 * (b / 2) by omega]
          generalize b / 2 = c
          have : (1 + 2 * c) / 2 = c := by omega
          rw [this]; grind
        omega
      · rw [if_neg hp, step _ s0 s1]
        congr 1
        have : a * b = (a + a) * (b / 2) := by
          rw [show b = 2 * (b / 2) by omega]
          generalize b / 2 = c
          have : (2 * c) / 2 = c := by omega
          rw [this]; grind
        omega
    · have : b = 0 := by omega
      subst this
      rw [if_neg h, Int.mul_zero, Int.add_zero, Int.emod_eq_of_lt s0 s1]
/-! Join, remainder by remainder -/
def jn : List (Int × Int) → Int → Int → Int × Int × Int
  | [], x, all => (x, all, 0)
  | (r, m) :: l, x, all =>
    if m < 1 ∨ 1099511627776 < m then (0, 0, 2)
    else if lack x r m % (gcdR all m).g ≠ 0 then (0, 0, 100)
    else if 4611686018427387904 / own all m < all then (0, 0, 3)
    else jn l (x + all * tms x all r m) (all * own all m)
theorem jn_ok : ∀ (l : List (Int × Int)) (x all : Int), 0 ≤ x → x < all → all ≤ 4611686018427387904 → (jn l x all).2.2 = 0 →
    0 ≤ (jn l x all).1 ∧ (jn l x all).1 < (jn l x all).2.1 ∧ (jn l x all).2.1 ≤ 4611686018427387904 ∧ (jn l x all).1 % all = x ∧ all ∣ (jn l x all).2.1 ∧ ∀ r m, (r, m) ∈ l → m ∣ (jn l x all).2.1 ∧ (jn l x all).1 % m = r % m
  | [], x, all, x0, x1, a1, _ => by
    refine ⟨x0, x1, a1, Int.emod_eq_of_lt x0 x1, Int.dvd_refl _, fun r m h => by cases h⟩
  | (r, m) :: l, x, all, x0, x1, a1, h => by
    unfold jn at h ⊢
    by_cases h1 : m < 1 ∨ 1099511627776 < m
    · rw [if_pos h1] at h; exact absurd h (by decide)
    · rw [if_neg h1] at h ⊢
      by_cases h2 : lack x r m % (gcdR all m).g ≠ 0
      · rw [if_pos h2] at h; exact absurd h (by decide)
      · rw [if_neg h2] at h ⊢
        by_cases h3 : 4611686018427387904 / own all m < all
        · rw [if_pos h3] at h; exact absurd h (by decide)
        · rw [if_neg h3] at h ⊢
          obtain ⟨s1, s2, s3, s4, s5, s6, s7⟩ := join_step (r := r) x0 x1 a1 (by omega) (show m ≤ 1099511627776 by omega) (by omega)
          have ha : all * own all m ≤ 4611686018427387904 := by
            have a2 := Int.mul_le_mul_of_nonneg_right (show all ≤ 4611686018427387904 / own all m by omega) (show 0 ≤ own all m by omega)
            have a3 := Int.ediv_mul_le 4611686018427387904 (show own all m ≠ 0 by omega)
            omega
          obtain ⟨t1, t2, t3, t4, t5, t6⟩ := jn_ok l _ _ s1 s2 ha h
          have dm : m ∣ all * own all m := by rw [s7]; exact Int.dvd_lcm_right all m
          have da : all ∣ all * own all m := Int.dvd_mul_right _ _
          generalize jn l (x + all * tms x all r m) (all * own all m) = J at *
          have k1 : ∀ {d : Int}, d ∣ all * own all m → J.1 % d = (x + all * tms x all r m) % d := by
            intro d hd
            rw [← t4, Int.emod_emod_of_dvd _ hd]
          refine ⟨t1, t2, t3, by rw [k1 da, s4], Int.dvd_trans da t5, fun r' m' hm => ?_⟩
          rcases List.mem_cons.1 hm with e | hm
          · cases e
            exact ⟨Int.dvd_trans dm t5, by rw [k1 dm, s3]⟩
          · exact t6 r' m' hm
/-- remainders of one number are never refused as unlike -/
theorem jn_from (z : Int) : ∀ (l : List (Int × Int)) (x all : Int), 0 ≤ x → x < all → all ≤ 4611686018427387904 → z % all = x → (∀ r m, (r, m) ∈ l → z % m = r % m) → (jn l x all).2.2 ≠ 100
  | [], x, all, _, _, _, _, _ => by unfold jn; show (0 : Int) ≠ 100; decide
  | (r, m) :: l, x, all, x0, x1, a1, hz, hl => by
    unfold jn
    by_cases h1 : m < 1 ∨ 1099511627776 < m
    · rw [if_pos h1]; show (2 : Int) ≠ 100; decide
    · rw [if_neg h1]
      have hd := join_none (x := x) (all := all) (r := r) (m := m) (z := z) (by omega) (by omega) (by omega) a1 (by rw [hz, Int.emod_eq_of_lt x0 x1]) (hl r m (List.mem_cons_self ..))
      rw [if_neg (by rw [hd]; simp)]
      by_cases h3 : 4611686018427387904 / own all m < all
      · rw [if_pos h3]; show (3 : Int) ≠ 100; decide
      · rw [if_neg h3]
        obtain ⟨s1, s2, s3, s4, s5, s6, s7⟩ := join_step (r := r) x0 x1 a1 (by omega) (show m ≤ 1099511627776 by omega) hd
        have ha : all * own all m ≤ 4611686018427387904 := by
          have a2 := Int.mul_le_mul_of_nonneg_right (show all ≤ 4611686018427387904 / own all m by omega) (show 0 ≤ own all m by omega)
          have a3 := Int.ediv_mul_le 4611686018427387904 (show own all m ≠ 0 by omega)
          omega
        refine jn_from z l _ _ s1 s2 ha ?_ (fun r' m' h => hl r' m' (List.mem_cons_of_mem _ h))
        rw [s7] at s2 ⊢
        have l0 : 0 < (Int.lcm all m : Int) := by omega
        refine crt_unique (Int.emod_nonneg _ (by omega)) (Int.emod_lt_of_pos _ l0) s1 s2 ?_ ?_
        · rw [Int.emod_emod_of_dvd _ (Int.dvd_lcm_left all m), hz, s4]
        · rw [Int.emod_emod_of_dvd _ (Int.dvd_lcm_right all m), hl r m (List.mem_cons_self ..), s3]
/-- a product in two words, its remainder (the program's) -/
theorem two_words (z m : Int) : (z / 18446744073709551616 % m * 18446744073709551616 + z % 18446744073709551616) % m = z % m := by
  rw [Int.add_emod, Int.mul_emod, Int.emod_emod_of_dvd _ (Int.dvd_refl m), ← Int.mul_emod, ← Int.add_emod]
  congr 1
  omega
/-- how far a number is from a remainder, round a modulus -/
def frD (x r m : Int) : Int := min ((x - r) % m) (m - (x - r) % m)
theorem frD_mod (x r m : Int) : frD x (r % m) m = frD x r m := by
  unfold frD
  rw [Int.sub_emod, Int.emod_emod_of_dvd _ (Int.dvd_refl m), ← Int.sub_emod]
theorem frD_bounds {x r m : Int} (h : 1 ≤ m) : 0 ≤ frD x r m ∧ 2 * frD x r m ≤ m := by
  unfold frD
  have a := Int.emod_nonneg (x - r) (show m ≠ 0 by omega)
  have b := Int.emod_lt_of_pos (x - r) (show 0 < m by omega)
  omega
end Fo
