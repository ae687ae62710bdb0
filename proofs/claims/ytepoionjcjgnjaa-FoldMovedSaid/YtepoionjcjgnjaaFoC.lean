import Derived.Test.YtepoionjcjgnjaaFoldA
set_option autoImplicit false
set_option linter.unusedVariables false
namespace Fo
open Go Go.RowKit
/-! more of Join, in plain numbers -/
theorem jn_bad0 : ∀ (l : List (Int × Int)) (x all : Int), (jn l x all).2.2 ≠ 0 → (jn l x all).1 = 0 ∧ (jn l x all).2.1 = 0
  | [], x, all, h => absurd rfl h
  | (r, m) :: l, x, all, h => by
    unfold jn at h ⊢
    split
    · exact ⟨rfl, rfl⟩
    · split
      · exact ⟨rfl, rfl⟩
      · split
        · exact ⟨rfl, rfl⟩
        · rename_i h1 h2 h3
          rw [if_neg h1, if_neg h2, if_neg h3] at h
          exact jn_bad0 l _ _ h
/-- small moduli: nothing is too long -/
theorem jn_small : ∀ (l : List (Int × Int)) (x all : Int), 0 ≤ x → x < all → all * 4096 ^ l.length ≤ 1152921504606846976 → (∀ p ∈ l, 1 ≤ p.2 ∧ p.2 ≤ 4096) → (jn l x all).2.2 = 0 ∨ (jn l x all).2.2 = 100
  | [], x, all, _, _, _, _ => .inl rfl
  | (r, m) :: l, x, all, x0, x1, ha, hm => by
    obtain ⟨m0, m1⟩ := hm (r, m) (List.mem_cons_self ..)
    simp only at m0 m1
    have hp : (1 : Int) ≤ 4096 ^ l.length := by
      have := Nat.one_le_two_pow (n := 0)
      have h : 0 < (4096 : Nat) ^ l.length := Nat.pow_pos (by omega)
      have e : ((4096 : Int) ^ l.length) = ((4096 ^ l.length : Nat) : Int) := by simp
      rw [e]; omega
    have a2 : all * 4096 ≤ 1152921504606846976 := by
      have h1 : all * 4096 ^ (l.length + 1) = all * 4096 * 4096 ^ l.length := by rw [Int.pow_succ]; grind
      rw [List.length_cons, h1] at ha
      have := Int.mul_le_mul_of_nonneg_left hp (show 0 ≤ all * 4096 by omega)
      omega
    unfold jn
    rw [if_neg (by omega)]
    split
    · exact .inr rfl
    · rename_i h2
      obtain ⟨s1, s2, s3, s4, s5, s6, s7⟩ := join_step (r := r) x0 x1 (by omega) (by omega) (show m ≤ 1099511627776 by omega) (by omega)
      have o1 : all * own all m ≤ all * 4096 := Int.mul_le_mul_of_nonneg_left (by omega) (by omega)
      have o2 : ¬ 4611686018427387904 / own all m < all := by
        have := (Int.le_ediv_iff_mul_le (c := own all m) (a := all) (b := 4611686018427387904) (by omega)).2 (by omega)
        omega
      rw [if_neg o2]
      refine jn_small l _ _ s1 s2 ?_ (fun p hp => hm p (List.mem_cons_of_mem _ hp))
      refine Int.le_trans (Int.mul_le_mul_of_nonneg_right o1 (by omega)) ?_
      rw [List.length_cons, Int.pow_succ] at ha
      have : all * 4096 * 4096 ^ l.length = all * (4096 ^ l.length * 4096) := by grind
      omega
/-- the common multiple hangs on the moduli alone -/
def lc : List Int → Int → Int
  | [], all => all
  | m :: l, all => lc l (all * own all m)
theorem jn_lc : ∀ (l : List (Int × Int)) (x all : Int), (jn l x all).2.2 = 0 → (jn l x all).2.1 = lc (l.map (·.2)) all
  | [], x, all, _ => rfl
  | (r, m) :: l, x, all, h => by
    unfold jn at h ⊢
    split at h
    · exact absurd h (by decide)
    · rename_i h1
      rw [if_neg h1]
      split at h
      · exact absurd h (by decide)
      · rename_i h2
        rw [if_neg h2]
        split at h
        · exact absurd h (by decide)
        · rename_i h3
          rw [if_neg h3]
          exact jn_lc l _ _ h
/-- a number comes out of its remainders -/
theorem jn_tells (z : Int) : ∀ (l : List (Int × Int)) (x all : Int), 0 ≤ x → x < all → all ≤ 4611686018427387904 → z % all = x → (∀ r m, (r, m) ∈ l → z % m = r % m) → (jn l x all).2.2 = 0 → (jn l x all).1 = z % (jn l x all).2.1
  | [], x, all, _, _, _, hz, _, _ => hz.symm
  | (r, m) :: l, x, all, x0, x1, a1, hz, hl, h => by
    unfold jn at h ⊢
    split at h
    · exact absurd h (by decide)
    · rename_i h1
      rw [if_neg h1]
      split at h
      · exact absurd h (by decide)
      · rename_i h2
        rw [if_neg h2]
        split at h
        · exact absurd h (by decide)
        · rename_i h3
          rw [if_neg h3]
          obtain ⟨s1, s2, s3, s4, s5, s6, s7⟩ := join_step (r := r) x0 x1 a1 (by omega) (show m ≤ 1099511627776 by omega) (by omega)
          have ha : all * own all m ≤ 4611686018427387904 := by
            have a2 := Int.mul_le_mul_of_nonneg_right (show all ≤ 4611686018427387904 / own all m by omega) (show 0 ≤ own all m by omega)
            have a3 := Int.ediv_mul_le 4611686018427387904 (show own all m ≠ 0 by omega)
            omega
          refine jn_tells z l _ _ s1 s2 ha ?_ (fun r' m' h => hl r' m' (List.mem_cons_of_mem _ h)) h
          rw [s7] at s2 ⊢
          have l0 : 0 < (Int.lcm all m : Int) := by omega
          refine crt_unique (Int.emod_nonneg _ (by omega)) (Int.emod_lt_of_pos _ l0) s1 s2 ?_ ?_
          · rw [Int.emod_emod_of_dvd _ (Int.dvd_lcm_left all m), hz, s4]
          · rw [Int.emod_emod_of_dvd _ (Int.dvd_lcm_right all m), hl r m (List.mem_cons_self ..), s3]
/-- all of it, from the beginning: small moduli, at most five -/
structure Jd (l : List (Int × Int)) : Prop where
  size : l.length ≤ 5
  small : ∀ p ∈ l, 1 ≤ p.2 ∧ p.2 ≤ 4096
theorem Jd.codes {l : List (Int × Int)} (h : Jd l) : (jn l 0 1).2.2 = 0 ∨ (jn l 0 1).2.2 = 100 := by
  refine jn_small l 0 1 (by omega) (by omega) ?_ h.small
  have e : ((4096 : Int) ^ l.length) = ((4096 ^ l.length : Nat) : Int) := by simp
  have := Nat.pow_le_pow_right (n := 4096) (by omega) h.size
  rw [e, Int.one_mul]
  have h2 : (4096 : Nat) ^ 5 = 1152921504606846976 := by decide
  omega
/-- remainders of z: Join tells z modulo the common multiple -/
theorem Jd.back {l : List (Int × Int)} (h : Jd l) (z : Int) (hz : ∀ r m, (r, m) ∈ l → z % m = r % m) : jn l 0 1 = (z % lc (l.map (·.2)) 1, lc (l.map (·.2)) 1, 0) := by
  have h0 : z % 1 = 0 := by omega
  have n100 := jn_from z l 0 1 (by omega) (by omega) (by omega) h0 hz
  have e0 : (jn l 0 1).2.2 = 0 := by rcases h.codes with h | h; exact h; exact absurd h n100
  have e1 := jn_lc l 0 1 e0
  have e2 := jn_tells z l 0 1 (by omega) (by omega) (by omega) h0 hz e0
  rw [e1] at e2
  exact Prod.ext e2 (Prod.ext e1 e0)
theorem Jd.lc_pos {l : List (Int × Int)} (h : Jd l) (z : Int) (hz : ∀ r m, (r, m) ∈ l → z % m = r % m) : 1 ≤ lc (l.map (·.2)) 1 ∧ lc (l.map (·.2)) 1 ≤ 4611686018427387904 ∧ ∀ r m, (r, m) ∈ l → m ∣ lc (l.map (·.2)) 1 := by
  have e := h.back z hz
  obtain ⟨o1, o2, o3, _, _, o6⟩ := jn_ok l 0 1 (by omega) (by omega) (by omega) (by rw [e])
  rw [e] at o1 o2 o3 o6
  simp only at o1 o2 o3 o6
  exact ⟨by omega, o3, fun r m hm => (o6 r m hm).1⟩
end Fo
