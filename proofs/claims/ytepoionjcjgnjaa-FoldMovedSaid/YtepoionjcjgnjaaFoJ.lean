import Derived.Test.YtepoionjcjgnjaaFoS
import Derived.Test.YtepoionjcjgnjaaFoE
set_option autoImplicit false
set_option linter.unusedVariables false
namespace Go.Proofs.Ytepoionjcjgnjaa
open Go.RowKit Lk Fo
theorem ret3 {a b c : Int} {t : Int × Int × Int} (h : t = (a, b, c)) : Ending.returned (.tuple #[.int .i64 a, .int .i64 b, .int .i64 c]) = .returned (.tuple #[.int .i64 t.1, .int .i64 t.2.1, .int .i64 t.2.2]) := by rw [h]
theorem jn_bad {r m x all : Int} {l : List (Int × Int)} (h : m < 1 ∨ 1099511627776 < m) : jn ((r, m) :: l) x all = (0, 0, 2) := by rw [jn, if_pos h]
theorem jn_unlike {r m x all : Int} {l : List (Int × Int)} (h : ¬ (m < 1 ∨ 1099511627776 < m)) (k : lack x r m % (gcdR all m).g ≠ 0) : jn ((r, m) :: l) x all = (0, 0, 100) := by rw [jn, if_neg h, if_pos k]
theorem jn_long {r m x all : Int} {l : List (Int × Int)} (h : ¬ (m < 1 ∨ 1099511627776 < m)) (k : lack x r m % (gcdR all m).g = 0) (j : 4611686018427387904 / own all m < all) : jn ((r, m) :: l) x all = (0, 0, 3) := by rw [jn, if_neg h, if_neg (by simpa using k), if_pos j]
theorem jn_go {r m x all : Int} {l : List (Int × Int)} (h : ¬ (m < 1 ∨ 1099511627776 < m)) (k : lack x r m % (gcdR all m).g = 0) (j : ¬ 4611686018427387904 / own all m < all) : jn ((r, m) :: l) x all = jn l (x + all * tms x all r m) (all * own all m) := by rw [jn, if_neg h, if_neg (by simpa using k), if_neg j]
/-- the numbers of one round -/
theorem eul_range : ∀ (k : Nat) (one two : Row), (-9223372036854775808 ≤ one.x ∧ one.x ≤ 9223372036854775807) → (-9223372036854775808 ≤ two.x ∧ two.x ≤ 9223372036854775807) → (-9223372036854775808 ≤ (eul k one two).x ∧ (eul k one two).x ≤ 9223372036854775807)
  | 0, one, two, h1, h2 => h1
  | k + 1, one, two, h1, h2 => by
    unfold eul
    split
    · exact h1
    · exact eul_range k two (stp one two) h2 (wrap_range _)
theorem round_facts {x all m r : Int} (x0 : 0 ≤ x) (x1 : x < all) (a1 : all ≤ 4611686018427387904) (m0 : 1 ≤ m) (m1 : m ≤ 1099511627776) :
    1 ≤ (gcdR all m).g ∧ (gcdR all m).g ≤ m ∧ 1 ≤ own all m ∧ own all m ≤ m ∧ -m < lack x r m ∧ lack x r m < m ∧ (-9223372036854775808 ≤ (gcdR all m).x ∧ (gcdR all m).x ≤ 9223372036854775807) := by
  obtain ⟨gs, _⟩ := gcdR_spec (a := all) (b := m) (by omega) (by omega) (by omega) (by omega)
  have hd := Int.gcd_dvd_right all m
  have g0 : 0 < (Int.gcd all m : Int) := by
    have : Int.gcd all m ≠ 0 := fun h => by have := Int.gcd_eq_zero_iff.1 h; omega
    omega
  have g1 := Int.le_of_dvd (by omega) hd
  have r0 := Int.emod_nonneg r (show m ≠ 0 by omega)
  have r1 := Int.emod_lt_of_pos r (show 0 < m by omega)
  have s0 := Int.emod_nonneg x (show m ≠ 0 by omega)
  have s1 := Int.emod_lt_of_pos x (show 0 < m by omega)
  have o1 : 1 ≤ own all m := by
    unfold own; rw [gs]
    exact (Int.le_ediv_iff_mul_le (by omega)).2 (by omega)
  have o2 : own all m ≤ m := by unfold own; exact Int.ediv_le_self _ (by omega)
  have hx := eul_range (m.toNat + 1) ⟨all, 1, 0⟩ ⟨m, 0, 1⟩ (by simp) (by simp)
  unfold lack
  exact ⟨by omega, by omega, o1, o2, by omega, by omega, hx⟩
theorem lack_div {x all m r : Int} (x0 : 0 ≤ x) (x1 : x < all) (a1 : all ≤ 4611686018427387904) (m0 : 1 ≤ m) (m1 : m ≤ 1099511627776) (hz : lack x r m % (gcdR all m).g = 0) :
    (lack x r m).tdiv (gcdR all m).g = lack x r m / (gcdR all m).g ∧ -m ≤ lack x r m / (gcdR all m).g ∧ lack x r m / (gcdR all m).g ≤ m := by
  obtain ⟨f1, f2, f3, f4, f5, f6, f7⟩ := round_facts (r := r) x0 x1 a1 m0 m1
  generalize lack x r m = t at *
  generalize (gcdR all m).g = g at *
  refine ⟨Int.tdiv_eq_ediv_of_dvd (Int.dvd_of_emod_eq_zero hz), (Int.le_ediv_iff_mul_le (by omega)).2 ?_, ?_⟩
  · have := Int.mul_le_mul_of_nonneg_left f1 (show 0 ≤ m by omega)
    rw [Int.neg_mul]; omega
  · refine Int.le_trans (Int.ediv_le_ediv (c := g) (by omega) (show t ≤ m by omega)) (Int.ediv_le_self _ (by omega))
structure TM (r m : Int) (f : FuncId) (args : Array Value) (u : Value) (w : World) : Prop where
  a : f = 27 → args = #[.int .i64 r, .int .i64 m] → u = .int .i64 (r % m)
theorem tm_a {r m : Int} (r1 : -9223372036854775808 ≤ r) (r2 : r ≤ 9223372036854775807) (m1 : 1 ≤ m) (m2 : m ≤ 9223372036854775807) (w : World) : Calls Try.prog 27 #[.int .i64 r, .int .i64 m] w (fun e' w'' => ∃ u, e' = .returned u ∧ TM r m 27 #[.int .i64 r, .int .i64 m] u w'' ∧ Ext w w'') :=
  (mod_walk r m w r1 r2 m1 m2).mono fun e' w' ⟨he, hb⟩ => ⟨_, he, ⟨fun _ _ => rfl⟩, by rw [← hb]; exact Ext.refl _⟩
theorem wrap_i {z : Int} (h1 : -9223372036854775808 ≤ z) (h2 : z ≤ 9223372036854775807) : IntKind.i64.wrap z = z := by rw [IntKind.wrap_i64]; omega
structure TJ (t p o : Int) (f : FuncId) (args : Array Value) (u : Value) (w : World) : Prop where
  a : f = 27 → args = #[.int .i64 t, .int .i64 o] → u = .int .i64 (t % o)
  b : f = 27 → args = #[.int .i64 p, .int .i64 o] → u = .int .i64 (p % o)
  c : f = 28 → u = .int .i64 (t % o * (p % o) % o)
theorem tj_a {t p o : Int} (r1 : -9223372036854775808 ≤ t) (r2 : t ≤ 9223372036854775807) (m1 : 1 ≤ o) (m2 : o ≤ 9223372036854775807) (w : World) : Calls Try.prog 27 #[.int .i64 t, .int .i64 o] w (fun e' w'' => ∃ u, e' = .returned u ∧ TJ t p o 27 #[.int .i64 t, .int .i64 o] u w'' ∧ Ext w w'') :=
  (mod_walk t o w r1 r2 m1 m2).mono fun e' w' ⟨he, hb⟩ => ⟨_, he, ⟨fun _ _ => rfl, fun _ h => by simp at h; rw [h], fun h => absurd h (by decide)⟩, by rw [← hb]; exact Ext.refl _⟩
theorem tj_b {t p o : Int} (r1 : -9223372036854775808 ≤ p) (r2 : p ≤ 9223372036854775807) (m1 : 1 ≤ o) (m2 : o ≤ 9223372036854775807) (w : World) : Calls Try.prog 27 #[.int .i64 p, .int .i64 o] w (fun e' w'' => ∃ u, e' = .returned u ∧ TJ t p o 27 #[.int .i64 p, .int .i64 o] u w'' ∧ Ext w w'') :=
  (mod_walk p o w r1 r2 m1 m2).mono fun e' w' ⟨he, hb⟩ => ⟨_, he, ⟨fun _ h => by simp at h; rw [h], fun _ _ => rfl, fun h => absurd h (by decide)⟩, by rw [← hb]; exact Ext.refl _⟩
theorem tj_c {B t p o : Int} (hD : DivOk B) (hB : B ≤ 1099511627776) (m1 : 1 ≤ o) (m2 : o ≤ B) (w : World) : Calls Try.prog 28 #[.int .i64 (t % o), .int .i64 (p % o), .int .i64 o] w (fun e' w'' => ∃ u, e' = .returned u ∧ TJ t p o 28 #[.int .i64 (t % o), .int .i64 (p % o), .int .i64 o] u w'' ∧ Ext w w'') :=
  (times_walk B (t % o) (p % o) o w hD hB (Int.emod_nonneg _ (by omega)) (Int.emod_lt_of_pos _ (by omega)) (Int.emod_nonneg _ (by omega)) (Int.emod_lt_of_pos _ (by omega)) m2).mono fun e' w' ⟨he, hb⟩ => ⟨_, he, ⟨fun h => absurd h (by decide), fun h => absurd h (by decide), fun _ => rfl⟩, hb⟩
end Go.Proofs.Ytepoionjcjgnjaa
