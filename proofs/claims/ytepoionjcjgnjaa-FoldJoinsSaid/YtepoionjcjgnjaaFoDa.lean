import Derived.Test.YtepoionjcjgnjaaFoLz
set_option autoImplicit false
set_option linter.unusedVariables false
namespace Go.Proofs.Ytepoionjcjgnjaa
open Go.RowKit Lk Fo
/-! a digit of the long division -/
structure DE (Y N1 N0 u3 u1 Q : Nat) : Prop where
  ey : Y = N1 * 4294967296 + N0
  ln0 : N0 < 4294967296
  l1 : 2147483648 ≤ N1
  hn1 : N1 < 4294967296
  lu3 : u3 < Y
  lu1 : u1 < 4294967296
  lo : Q * Y ≤ u3 * 4294967296 + u1
  hi : u3 * 4294967296 + u1 < (Q + 1) * Y
structure Dg (N1 u3 Q q r : Nat) : Prop where
  eq : q * N1 + r = u3
  lo : Q ≤ q
  hi : q ≤ 4294967297
theorem DE.small {Y N1 N0 u3 u1 Q : Nat} (d : DE Y N1 N0 u3 u1 Q) : Q < 4294967296 := by
  apply Decidable.byContradiction
  intro h
  have a := Nat.mul_le_mul_right Y (show 4294967296 ≤ Q by omega)
  have b := d.lo
  have c := d.lu3
  have e := d.lu1
  omega
theorem DE.le {Y N1 N0 u3 u1 Q q : Nat} (d : DE Y N1 N0 u3 u1 Q) (h : q * Y ≤ u3 * 4294967296 + u1) : q ≤ Q := by
  apply Decidable.byContradiction
  intro hn
  have a := Nat.mul_le_mul_right Y (show Q + 1 ≤ q by omega)
  have b := d.hi
  omega
theorem DE.split {Y N1 N0 u3 u1 Q q r : Nat} (d : DE Y N1 N0 u3 u1 Q) (g : q * N1 + r = u3) : q * Y + r * 4294967296 = u3 * 4294967296 + q * N0 := by
  rw [d.ey, ← g, Nat.mul_add, Nat.add_mul, Nat.mul_assoc]
  omega
theorem Dg.start {Y N1 N0 u3 u1 Q : Nat} (d : DE Y N1 N0 u3 u1 Q) : Dg N1 u3 Q (u3 / N1) (u3 % N1) ∧ u3 % N1 < N1 := by
  have h1 := d.l1
  have h2 := d.ey
  have h3 := d.ln0
  have h4 := d.lu3
  have e : u3 / N1 * N1 + u3 % N1 = u3 := by rw [Nat.mul_comm]; exact Nat.div_add_mod u3 N1
  refine ⟨⟨e, ?_, ?_⟩, Nat.mod_lt _ (by omega)⟩
  · -- Q * N1 * B ≤ Q * Y ≤ V < (u3 + 1) * B
    rw [Nat.le_div_iff_mul_le (by omega)]
    have a := d.lo
    have b := d.lu1
    rw [h2, Nat.mul_add, ← Nat.mul_assoc] at a
    omega
  · have : u3 / N1 < 4294967298 := by
      rw [Nat.div_lt_iff_lt_mul (by omega)]
      omega
    omega
theorem Dg.more {Y N1 N0 u3 u1 Q q r : Nat} (d : DE Y N1 N0 u3 u1 Q) (g : Dg N1 u3 Q q r) (h : 4294967296 ≤ q ∨ 4294967296 * r + u1 < q * N0) : Q < q := by
  rcases h with h | h
  · have := d.small; omega
  · apply Decidable.byContradiction
    intro hn
    have a := Nat.mul_le_mul_right Y (show q ≤ Q by omega)
    have b := d.split g.eq
    have c := d.lo
    omega
theorem Dg.less {N1 u3 Q q r : Nat} (g : Dg N1 u3 Q q r) (h : Q < q) : Dg N1 u3 Q (q - 1) (r + N1) := by
  obtain ⟨q', rfl⟩ : ∃ q', q = q' + 1 := ⟨q - 1, by omega⟩
  refine ⟨?_, by omega, by have := g.hi; omega⟩
  have := g.eq
  rw [Nat.add_mul] at this
  show q' * N1 + (r + N1) = u3
  omega
theorem Dg.done {Y N1 N0 u3 u1 Q q r : Nat} (d : DE Y N1 N0 u3 u1 Q) (g : Dg N1 u3 Q q r) (h : ¬ 4294967296 * r + u1 < q * N0) : q = Q := by
  have b := d.split g.eq
  have c := d.le (q := q) (by omega)
  have := g.lo
  omega
theorem Dg.stop {Y N1 N0 u3 u1 Q q r : Nat} (d : DE Y N1 N0 u3 u1 Q) (g : Dg N1 u3 Q q r) (hq : q ≤ 4294967296) (h : 4294967296 ≤ r) : q = Q := by
  have b := d.split g.eq
  have e := Nat.mul_le_mul hq (Nat.le_of_lt d.ln0)
  have f := Nat.mul_le_mul_right 4294967296 h
  have c := d.le (q := q) (by omega)
  have := g.lo
  omega
/-- the digit's remainder, as it is reckoned: running over -/
theorem dg_rest {Y N1 N0 u3 u1 : Nat} (d : DE Y N1 N0 u3 u1 ((u3 * 4294967296 + u1) / Y)) (hY : Y < 18446744073709551616) :
    IntKind.u64.wrap (IntKind.u64.wrap (IntKind.u64.wrap ((u3 : Int) * 4294967296) + (u1 : Int)) - IntKind.u64.wrap ((((u3 * 4294967296 + u1) / Y : Nat) : Int) * (Y : Int))) = (((u3 * 4294967296 + u1) % Y : Nat) : Int) := by
  have e : Y * ((u3 * 4294967296 + u1) / Y) + (u3 * 4294967296 + u1) % Y = u3 * 4294967296 + u1 := Nat.div_add_mod _ _
  have m := Nat.mod_lt (u3 * 4294967296 + u1) (show 0 < Y by have := d.lu3; omega)
  generalize (u3 * 4294967296 + u1) / Y = Q at *
  generalize (u3 * 4294967296 + u1) % Y = R at *
  have p : ((Q : Int) * (Y : Int)) = ((Y * Q : Nat) : Int) := by rw [Nat.mul_comm]; exact (Int.natCast_mul Q Y).symm
  rw [p]
  generalize Y * Q = P at *
  rw [IntKind.wrap_u64, IntKind.wrap_u64, IntKind.wrap_u64, IntKind.wrap_u64]
  omega
theorem de_of {Y N1 N0 u3 u1 : Nat} (y : Y = N1 * 4294967296 + N0) (n0 : N0 < 4294967296) (l1 : 2147483648 ≤ N1) (h1 : N1 < 4294967296) (hu : u3 < Y) (h : u1 < 4294967296) : DE Y N1 N0 u3 u1 ((u3 * 4294967296 + u1) / Y) := by
  have e : Y * ((u3 * 4294967296 + u1) / Y) + (u3 * 4294967296 + u1) % Y = u3 * 4294967296 + u1 := Nat.div_add_mod _ _
  have m := Nat.mod_lt (u3 * 4294967296 + u1) (show 0 < Y by omega)
  refine ⟨y, n0, l1, h1, hu, h, ?_, ?_⟩
  · rw [Nat.mul_comm]; omega
  · rw [Nat.add_mul, Nat.one_mul, Nat.mul_comm ((u3 * 4294967296 + u1) / Y) Y]; omega
/-- the whole: two digits -/
theorem two_digits {hi lo y s Y U u1 u0 : Nat} (hY : Y = y * 2 ^ s) (hV : (U * 4294967296 + u1) * 4294967296 + u0 = (hi * 18446744073709551616 + lo) * 2 ^ s) (hy : 0 < y) :
    ((U * 4294967296 + u1) % Y * 4294967296 + u0) % Y / 2 ^ s = (hi * 18446744073709551616 + lo) % y := by
  have e : ((U * 4294967296 + u1) % Y * 4294967296 + u0) % Y = ((U * 4294967296 + u1) * 4294967296 + u0) % Y := by
    rw [Nat.add_mod, Nat.mul_mod, Nat.mod_mod, ← Nat.mul_mod, ← Nat.add_mod]
  rw [e, hV, hY, Nat.mul_mod_mul_right]
  exact Nat.mul_div_cancel _ (Nat.two_pow_pos s)
end Go.Proofs.Ytepoionjcjgnjaa
