import Derived.Test.YtdngkeefbpffcaaFlX
import Derived.Laws.Cover2
set_option autoImplicit false
namespace Lk
open Ieee Go

/-! whole numbers, exactly -/
def V (w : Nat) (n : Int) : Prop := Fin w ∧ ev w = (n : Rat)
theorem p2_53 : p2 53 = ((2 ^ 53 : Nat) : Rat) := p2_nat 53
theorem int_lt_p2 {n : Int} (h : n.natAbs ≤ 2 ^ 53) : -(p2 1024) < (n : Rat) ∧ (n : Rat) < p2 1024 := by
  have h1 := p2_lt (a := 53) (b := 1024) (by omega)
  rw [p2_53] at h1
  have h2 : (n : Rat) ≤ ((2 ^ 53 : Nat) : Rat) := by
    have : n ≤ ((2 ^ 53 : Nat) : Int) := by omega
    have h3 : (n : Rat) ≤ (((2 ^ 53 : Nat) : Int) : Rat) := by exact_mod_cast this
    rwa [Rat.intCast_natCast] at h3
  have h2' : -((2 ^ 53 : Nat) : Rat) ≤ (n : Rat) := by
    have : -((2 ^ 53 : Nat) : Int) ≤ n := by omega
    have h3 : ((-((2 ^ 53 : Nat) : Int) : Int) : Rat) ≤ (n : Rat) := by exact_mod_cast this
    rwa [Rat.intCast_neg, Rat.intCast_natCast] at h3
  constructor <;> grind
theorem rc_int {n : Int} (h : n.natAbs ≤ 2 ^ 53) : rc (n : Rat) = n := by
  have := int_lt_p2 h
  exact rc_exact (rep_int h) (by grind) (by grind)
theorem V.of {w : Nat} {n : Int} (h : n.natAbs ≤ 2 ^ 53) (hn : ¬ Nan w) (he : ev w = rc (n : Rat)) : V w n := by
  rw [rc_int h] at he
  have := int_lt_p2 h
  exact ⟨fin_of_ev hn (by rw [he]; exact this.1) (by rw [he]; exact this.2), he⟩
theorem V.add {a b : Nat} {m n : Int} (ha : V a m) (hb : V b n) (h : (m + n).natAbs ≤ 2 ^ 53) : V (fadd a b) (m + n) := by
  obtain ⟨_, h2, h3, _⟩ := fadd_fin ha.1 hb.1
  exact .of h h2 (by rw [h3, ha.2, hb.2, Rat.intCast_add])
theorem V.sub {a b : Nat} {m n : Int} (ha : V a m) (hb : V b n) (h : (m - n).natAbs ≤ 2 ^ 53) : V (fsub a b) (m - n) := by
  obtain ⟨_, h2, h3, _⟩ := fsub_fin ha.1 hb.1
  exact .of h h2 (by rw [h3, ha.2, hb.2, Rat.intCast_sub])
theorem V.mul {a b : Nat} {m n : Int} (ha : V a m) (hb : V b n) (h : (m * n).natAbs ≤ 2 ^ 53) : V (fmul a b) (m * n) := by
  obtain ⟨_, h2, h3, _⟩ := fmul_fin ha.1 hb.1
  exact .of h h2 (by rw [h3, ha.2, hb.2, Rat.intCast_mul])
theorem V.div {a b : Nat} {m n k : Int} (ha : V a m) (hb : V b n) (hn : n ≠ 0) (hk : m = k * n) (h : k.natAbs ≤ 2 ^ 53) : V (fdiv a b) k := by
  have hn' : (n : Rat) ≠ 0 := by intro h0; exact hn (Rat.intCast_eq_zero_iff.1 h0)
  obtain ⟨_, h2, h3, _⟩ := fdiv_fin ha.1 hb.1 (by rw [hb.2]; exact hn')
  exact .of h h2 (by rw [h3, ha.2, hb.2, hk, Rat.intCast_mul, Rat.mul_div_cancel hn'])
theorem V.ceq {a b : Nat} {m n : Int} (ha : V a m) (hb : V b n) : ceq a b = decide (m = n) := by
  rw [Bool.eq_iff_iff, ceq_iff, decide_eq_true_eq, ha.2, hb.2, Rat.intCast_inj]
  exact ⟨fun h => h.2.2, fun h => ⟨ha.1.not_nan, hb.1.not_nan, h⟩⟩
theorem V.cgt {a b : Nat} {m n : Int} (ha : V a m) (hb : V b n) : cgt a b = decide (n < m) := by
  rw [Bool.eq_iff_iff, cgt_iff, decide_eq_true_eq, ha.2, hb.2, Rat.intCast_lt_intCast]
  exact ⟨fun h => h.2.2, fun h => ⟨ha.1.not_nan, hb.1.not_nan, h⟩⟩
theorem V.clt {a b : Nat} {m n : Int} (ha : V a m) (hb : V b n) : clt a b = decide (m < n) := by
  rw [Bool.eq_iff_iff, clt_iff, decide_eq_true_eq, ha.2, hb.2, Rat.intCast_lt_intCast]
  exact ⟨fun h => h.2.2, fun h => ⟨ha.1.not_nan, hb.1.not_nan, h⟩⟩
theorem V.zero : V 0 0 := by
  refine ⟨by decide +kernel, ?_⟩
  have : rg 0 = 0 := by decide +kernel
  exact ev_zero_iff.2 this
theorem V.ofInt {n : Int} (h : n.natAbs ≤ 2 ^ 53) : V (floatOfInt .f64 n) n ∧ floatOfInt .f64 n < 2 ^ 64 ∧ sgn (floatOfInt .f64 n) = decide (n < 0) := by
  obtain ⟨c, h1, h2, h3, h4, h5⟩ := write_number (decide (n < 0)) n.natAbs 0
  have e : floatOfInt .f64 n = c := h1
  rw [e]
  refine ⟨.of h h3 ?_, h2, h4⟩
  rw [h5]; congr 1
  rw [p2_zero]
  by_cases hn : n < 0
  · have : ((n.natAbs : Nat) : Rat) = -(n : Rat) := by
      have : ((n.natAbs : Nat) : Int) = -n := by omega
      rw [← Rat.intCast_natCast, this, Rat.intCast_neg]
    simp only [hn, decide_true, sv, if_true]; rw [this]; grind
  · have : ((n.natAbs : Nat) : Rat) = (n : Rat) := by
      have : ((n.natAbs : Nat) : Int) = n := by omega
      rw [← Rat.intCast_natCast, this]
    simp only [hn, decide_false, sv, Bool.false_eq_true, if_false]; rw [this]; grind
theorem V.lit {w : Nat} {n : Int} (h : n.natAbs ≤ 2 ^ 53) (e : floatOfInt .f64 n = w) : V w n := e ▸ (V.ofInt h).1
theorem V.two : V 4611686018427387904 2 := V.lit (by decide) (by decide +kernel)
theorem V.three : V 4613937818241073152 3 := V.lit (by decide) (by decide +kernel)
end Lk
