import Derived.Test.YthdpkmdkoldneaaFlY
import Derived.Test.YthdpkmdkoldneaaFlX
set_option autoImplicit false
namespace Lk
/-! layer 11 over words of 64 bits -/
def GOLD : Nat := 11400714819323198485
def nx (s : Nat) : Nat := (s + GOLD) % 2 ^ 64
def mx1 (z : Nat) : Nat := (z ^^^ z / 1073741824) * 13787848793156543929 % 2 ^ 64
def mx2 (z : Nat) : Nat := (z ^^^ z / 134217728) * 10723151780598845931 % 2 ^ 64
def mx3 (z : Nat) : Nat := z ^^^ z / 2147483648
def mix (s : Nat) : Nat := mx3 (mx2 (mx1 s))
def skp (s n : Nat) : Nat := (s + n * GOLD) % 2 ^ 64

theorem xor_shift_inj {a b : Nat} (i : Nat) (hi : 0 < i) (h : a ^^^ a / 2 ^ i = b ^^^ b / 2 ^ i) : a = b := by
  have h1 : (a ^^^ b) ^^^ (a ^^^ b) / 2 ^ i = 0 := by
    have e : (a ^^^ b) / 2 ^ i = a / 2 ^ i ^^^ b / 2 ^ i := by
      rw [← Nat.shiftRight_eq_div_pow, Nat.shiftRight_xor_distrib, Nat.shiftRight_eq_div_pow, Nat.shiftRight_eq_div_pow]
    rw [e]
    have : (a ^^^ b) ^^^ (a / 2 ^ i ^^^ b / 2 ^ i) = (a ^^^ a / 2 ^ i) ^^^ (b ^^^ b / 2 ^ i) := by
      apply Nat.eq_of_testBit_eq
      intro j
      simp only [Nat.testBit_xor]
      cases a.testBit j <;> cases b.testBit j <;> cases (a / 2 ^ i).testBit j <;> cases (b / 2 ^ i).testBit j <;> rfl
    rw [this, h, Nat.xor_self]
  have h2 : a ^^^ b = (a ^^^ b) / 2 ^ i := by
    generalize a ^^^ b = c at h1
    have : c ^^^ (c ^^^ c / 2 ^ i) = c ^^^ 0 := by rw [h1]
    rw [← Nat.xor_assoc, Nat.xor_self, Nat.zero_xor, Nat.xor_zero] at this
    exact this.symm
  have h3 : a ^^^ b = 0 := by
    generalize a ^^^ b = c at h2
    by_cases hc : c = 0
    · exact hc
    · have : c / 2 ^ i < c := Nat.div_lt_self (by omega) (Nat.one_lt_two_pow (by omega))
      omega
  have : a ^^^ (a ^^^ b) = a ^^^ 0 := by rw [h3]
  rw [← Nat.xor_assoc, Nat.xor_self, Nat.zero_xor, Nat.xor_zero] at this
  exact this.symm
theorem mul_inj {a b k q : Nat} (hk : k * q % 2 ^ 64 = 1) (ha : a < 2 ^ 64) (hb : b < 2 ^ 64) (h : a * k % 2 ^ 64 = b * k % 2 ^ 64) : a = b := by
  have e : ∀ x, x < 2 ^ 64 → x * k % 2 ^ 64 * q % 2 ^ 64 = x := by
    intro x hx
    rw [Nat.mod_mul_mod, Nat.mul_assoc, Nat.mul_mod, hk, Nat.mul_one, Nat.mod_mod, Nat.mod_eq_of_lt hx]
  rw [← e a ha, ← e b hb, h]
theorem xor_shift_lt {a : Nat} (m : Nat) (h : a < 2 ^ 64) : a ^^^ a / m < 2 ^ 64 := Nat.xor_lt_two_pow h (Nat.lt_of_le_of_lt (Nat.div_le_self _ _) h)
theorem mx1_lt (z : Nat) : mx1 z < 2 ^ 64 := Nat.mod_lt _ (by decide)
theorem mx2_lt (z : Nat) : mx2 z < 2 ^ 64 := Nat.mod_lt _ (by decide)
theorem mix_lt (z : Nat) : mix z < 2 ^ 64 := xor_shift_lt _ (mx2_lt _)
theorem nx_lt (s : Nat) : nx s < 2 ^ 64 := Nat.mod_lt _ (by decide)
theorem skp_lt (s n : Nat) : skp s n < 2 ^ 64 := Nat.mod_lt _ (by decide)
theorem mx1_inj {a b : Nat} (ha : a < 2 ^ 64) (hb : b < 2 ^ 64) (h : mx1 a = mx1 b) : a = b :=
  xor_shift_inj 30 (by decide) (mul_inj (q := 10871156337175269513) (by decide) (xor_shift_lt _ ha) (xor_shift_lt _ hb) h)
theorem mx2_inj {a b : Nat} (ha : a < 2 ^ 64) (hb : b < 2 ^ 64) (h : mx2 a = mx2 b) : a = b :=
  xor_shift_inj 27 (by decide) (mul_inj (q := 3573116690164977347) (by decide) (xor_shift_lt _ ha) (xor_shift_lt _ hb) h)
theorem mix_inj {a b : Nat} (ha : a < 2 ^ 64) (hb : b < 2 ^ 64) (h : mix a = mix b) : a = b :=
  mx1_inj ha hb (mx2_inj (mx1_lt a) (mx1_lt b) (xor_shift_inj 31 (by decide) h))
theorem mix_nx_inj {a b : Nat} (ha : a < 2 ^ 64) (hb : b < 2 ^ 64) : mix (nx a) = mix (nx b) ↔ a = b := by
  refine ⟨fun h => ?_, fun h => by rw [h]⟩
  have := mix_inj (nx_lt a) (nx_lt b) h
  unfold nx GOLD at this
  omega
theorem nx_skp (s k : Nat) : nx (skp s k) = skp s (k + 1) := by
  unfold nx skp
  rw [Nat.mod_add_mod]
  congr 1
  rw [Nat.add_mul, Nat.one_mul, Nat.add_assoc]
theorem skp_zero {s : Nat} (h : s < 2 ^ 64) : skp s 0 = s := by unfold skp; omega
theorem skp_skp (s p q : Nat) : skp (skp s p) q = skp s (p + q) := by
  unfold skp
  rw [Nat.mod_add_mod, Nat.add_mul, Nat.add_assoc]
theorem skp_mod (s p : Nat) : skp s (p % 2 ^ 64) = skp s p := by
  unfold skp
  rw [Nat.add_mod, Nat.mod_mul_mod, ← Nat.add_mod]
end Lk
