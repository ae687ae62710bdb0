import Derived.Test.YtdngkeefbpffcaaFlY
import Derived.Laws.FloatArith
set_option autoImplicit false
set_option linter.unusedVariables false
namespace Lk
open Ieee Go
/-! whole numbers below a float, and floats as whole numbers -/
theorem cut_low (A d : Nat) : A / (1 <<< min d (A.log2 + 2)) = A / 2 ^ d ∧ A % (1 <<< min d (A.log2 + 2)) = A % 2 ^ d := by
  rw [Nat.shiftLeft_eq, Nat.one_mul]
  by_cases h : d ≤ A.log2 + 2
  · rw [Nat.min_eq_left h]; exact ⟨rfl, rfl⟩
  · rw [Nat.min_eq_right (by omega)]
    have h1 : A < 2 ^ (A.log2 + 2) := Nat.lt_of_lt_of_le Nat.lt_log2_self (Nat.pow_le_pow_right (by decide) (by omega))
    have h2 : A < 2 ^ d := Nat.lt_of_lt_of_le h1 (Nat.pow_le_pow_right (by decide) (by omega))
    rw [Nat.div_eq_of_lt h1, Nat.div_eq_of_lt h2, Nat.mod_eq_of_lt h1, Nat.mod_eq_of_lt h2]
    exact ⟨rfl, rfl⟩
theorem cut_zero (s : Bool) (A d : Nat) : Toward.zero.cut s A d = A / 2 ^ d := by
  unfold Toward.cut; simp only [(cut_low A d).1]; simp
theorem cut_down (s : Bool) (A d : Nat) : Toward.down.cut s A d = A / 2 ^ d + (s && (A % 2 ^ d != 0)).toNat := by
  unfold Toward.cut; simp only [(cut_low A d).1, (cut_low A d).2]
theorem zc_spec (m : Nat) (i : Int) : ∃ z r D : Nat, m <<< i.toNat = D * z + r ∧ D = 2 ^ (-i).toNat ∧ r < D ∧ z = (m <<< i.toNat) / 2 ^ (-i).toNat ∧ r = (m <<< i.toNat) % 2 ^ (-i).toNat ∧
    (m : Rat) * p2 i * (D : Rat) = (D : Rat) * (z : Rat) + (r : Rat) := by
  refine ⟨_, _, _, (Nat.div_add_mod _ _).symm, rfl, Nat.mod_lt _ (Nat.pow_pos (by decide)), rfl, rfl, ?_⟩
  have e := Nat.div_add_mod (m <<< i.toNat) (2 ^ (-i).toNat)
  have e2 : ((2 ^ (-i).toNat : Nat) : Rat) * (((m <<< i.toNat) / 2 ^ (-i).toNat : Nat) : Rat) + (((m <<< i.toNat) % 2 ^ (-i).toNat : Nat) : Rat) = ((m <<< i.toNat : Nat) : Rat) := by exact_mod_cast e
  rw [e2, Nat.shiftLeft_eq]
  by_cases h : 0 ≤ i
  · have h1 : (-i).toNat = 0 := by omega
    have h2 : p2 i = ((2 ^ i.toNat : Nat) : Rat) := by rw [← p2_nat]; congr 1; omega
    rw [h1, h2]
    simp only [Nat.pow_zero]
    push_cast
    grind
  · have h1 : i.toNat = 0 := by omega
    have h2 : p2 (-i) = ((2 ^ (-i).toNat : Nat) : Rat) := by rw [← p2_nat]; congr 1; omega
    have h3 := p2_neg i
    rw [h2] at h3
    rw [h1]
    simp only [Nat.pow_zero, Nat.mul_one]
    rw [Rat.mul_assoc, h3, Rat.mul_one]
/-- a float that is whole, as a whole number -/
theorem V.toInt {q : Nat} {n : Int} (h : V q n) : (FloatKind.f64.decode q).toInt .zero = some n := by
  obtain ⟨hf, he⟩ := h
  have hr : FloatKind.f64.decode q = .number (sgn q) (nm (rg q)) (pl (rg q)) := read_fin hf
  rw [hr]
  show some (signed (sgn q) (Toward.zero.cut (sgn q) (nm (rg q) <<< (pl (rg q)).toNat) (-pl (rg q)).toNat) 0) = some n
  rw [cut_zero]
  obtain ⟨z, r, D, h1, h2, h3, h4, h5, h6⟩ := zc_spec (nm (rg q)) (pl (rg q))
  rw [← h4]
  congr 1
  have hm : ev q = sv (sgn q) ((nm (rg q) : Rat) * p2 (pl (rg q))) := rfl
  have hM : (nm (rg q) : Rat) * p2 (pl (rg q)) = ((n.natAbs : Nat) : Rat) ∧ ((n.natAbs : Int) = if sgn q then -n else n) := by
    have hnn : 0 ≤ (nm (rg q) : Rat) * p2 (pl (rg q)) := mg_nonneg _
    rw [he] at hm
    cases hs : sgn q
    · rw [hs] at hm
      simp only [sv, Bool.false_eq_true, if_false] at hm ⊢
      rw [← hm] at hnn ⊢
      have h0 : 0 ≤ n := by exact_mod_cast hnn
      have : ((n.natAbs : Nat) : Int) = n := by omega
      exact ⟨by rw [← Rat.intCast_natCast, this], this⟩
    · rw [hs] at hm
      simp only [sv, if_true] at hm ⊢
      have hm2 : (nm (rg q) : Rat) * p2 (pl (rg q)) = ((-n : Int) : Rat) := by rw [Rat.intCast_neg]; grind
      rw [hm2] at hnn ⊢
      have h0 : 0 ≤ -n := by exact_mod_cast hnn
      have : ((n.natAbs : Nat) : Int) = -n := by omega
      exact ⟨by rw [← Rat.intCast_natCast, this], this⟩
  rw [hM.1] at h6
  have h7 : n.natAbs * D = D * z + r := by exact_mod_cast h6
  have hz : z = n.natAbs := by
    have h8 : D * z ≤ D * n.natAbs := by rw [Nat.mul_comm D n.natAbs]; omega
    have h9 : D * n.natAbs < D * (z + 1) := by rw [Nat.mul_comm D n.natAbs, Nat.mul_add, Nat.mul_one]; omega
    have := Nat.le_of_mul_le_mul_left h8 (by omega)
    have := Nat.lt_of_mul_lt_mul_left h9
    omega
  unfold signed
  rw [hz]
  simp only [Nat.shiftLeft_zero]
  have h9 := hM.2
  clear hM h6 h7 h1 h2 h3 h4 h5 hm he hr
  cases hs : sgn q
  · rw [hs] at h9
    simp only [Bool.false_eq_true, if_false] at h9 ⊢
    exact h9
  · rw [hs] at h9
    simp only [if_true] at h9 ⊢
    omega
theorem V.conv {q : Nat} {n : Int} (h : V q n) (h1 : -9223372036854775808 ≤ n) (h2 : n ≤ 9223372036854775807) : floatToIntVal .f64 q .i64 = some n := by
  unfold floatToIntVal
  rw [h.toInt]
  have e1 : IntKind.i64.min = -9223372036854775808 := by decide
  have e2 : IntKind.i64.max = 9223372036854775807 := by decide
  rw [e1, e2]
  simp only [h1, h2, and_self, if_true]
def flr (x : Nat) : Nat := FloatKind.f64.encode ((FloatKind.f64.decode x).integral .down)
/-- the whole number below, for what is not below nought -/
theorem flr_spec {x : Nat} (hf : Fin x) (h0 : 0 ≤ ev x) : ∃ z : Nat, (z : Rat) ≤ ev x ∧ ev x < (z : Rat) + 1 ∧ flr x < 2 ^ 64 ∧ ¬ Nan (flr x) ∧ (z ≤ 2 ^ 53 → V (flr x) z) ∧ ev (flr x) = rc (z : Rat) := by
  have hr : FloatKind.f64.decode x = .number (sgn x) (nm (rg x)) (pl (rg x)) := read_fin hf
  obtain ⟨z, r, D, h1, h2, h3, h4, h5, h6⟩ := zc_spec (nm (rg x)) (pl (rg x))
  have hD : (0 : Rat) < (D : Rat) := by exact_mod_cast (show 0 < D by omega)
  have hm : ev x = sv (sgn x) ((nm (rg x) : Rat) * p2 (pl (rg x))) := rfl
  have hnn : 0 ≤ (nm (rg x) : Rat) * p2 (pl (rg x)) := mg_nonneg _
  have hM : ev x = (nm (rg x) : Rat) * p2 (pl (rg x)) := by
    rw [hm] at h0 ⊢
    cases hs : sgn x <;> rw [hs] at h0 <;> simp only [sv, Bool.false_eq_true, if_false, if_true] at h0 ⊢
    grind
  rw [← hM] at h6
  have hr0 : (0 : Rat) ≤ (r : Rat) := Rat.natCast_nonneg
  have hrD : (r : Rat) < (D : Rat) := by exact_mod_cast h3
  have hlo : (z : Rat) ≤ ev x := by
    apply Decidable.byContradiction
    intro hc
    have : ev x * (D : Rat) < (z : Rat) * (D : Rat) := Rat.mul_lt_mul_of_pos_right (by grind) hD
    grind
  have hhi : ev x < (z : Rat) + 1 := by
    apply Decidable.byContradiction
    intro hc
    have : ((z : Rat) + 1) * (D : Rat) ≤ ev x * (D : Rat) := Rat.mul_le_mul_of_nonneg_right (by grind) (by grind)
    grind
  have hcut : Toward.down.cut (sgn x) (nm (rg x) <<< (pl (rg x)).toNat) (-pl (rg x)).toNat = z := by
    rw [cut_down, ← h4, ← h5]
    cases hs : sgn x
    · simp
    · have : ev x = 0 := by have := ev_nonpos_of_sgn hs; grind
      rw [this] at h6
      have : D * z + r = 0 := by
        have : ((D * z + r : Nat) : Rat) = ((0 : Nat) : Rat) := by push_cast; grind
        exact_mod_cast this
      have : r = 0 := by omega
      rw [this]; simp
  obtain ⟨c, c1, c2, c3, c4, c5⟩ := write_number (sgn x) z 0
  have hfl : flr x = c := by
    unfold flr
    rw [hr]
    show double.write (.number (sgn x) (Toward.down.cut (sgn x) (nm (rg x) <<< (pl (rg x)).toNat) (-pl (rg x)).toNat) 0) = c
    rw [hcut]; exact c1
  have hev : ev (flr x) = rc (z : Rat) := by
    rw [hfl, c5, p2_zero, Rat.mul_one]
    cases hs : sgn x
    · rfl
    · have h0' : ev x = 0 := by have := ev_nonpos_of_sgn hs; grind
      have hz0 : (0 : Rat) ≤ (z : Rat) := Rat.natCast_nonneg
      have : (z : Rat) = 0 := by grind
      rw [this]; simp [sv]
  rw [hfl] at *
  refine ⟨z, hlo, hhi, c2, c3, fun hz => ?_, hev⟩
  exact V.of (n := (z : Int)) (by omega) c3 (by rw [hev]; rfl)
end Lk
