import Derived.Test.YtdngkeefbpffcaaFlC
set_option autoImplicit false
namespace Lk
open Ieee

theorem cut_spec (neg : Bool) (n d : Nat) : (2 * (Toward.even.cut neg n d : Int) - 1) * 2 ^ d ≤ 2 * n ∧ 2 * (n : Int) ≤ (2 * (Toward.even.cut neg n d : Int) + 1) * 2 ^ d ∧
    (2 * (n : Int) = (2 * (Toward.even.cut neg n d : Int) - 1) * 2 ^ d → Toward.even.cut neg n d % 2 = 0) ∧ (2 * (n : Int) = (2 * (Toward.even.cut neg n d : Int) + 1) * 2 ^ d → Toward.even.cut neg n d % 2 = 0) := by
  have key : ∀ g : Nat, 0 < g → ∀ k : Nat, k = n / g + (g < 2 * (n % g) || (g == 2 * (n % g) && n / g % 2 == 1)).toNat →
      (2 * (k : Int) - 1) * g ≤ 2 * n ∧ 2 * (n : Int) ≤ (2 * (k : Int) + 1) * g ∧ (2 * (n : Int) = (2 * (k : Int) - 1) * g → k % 2 = 0) ∧ (2 * (n : Int) = (2 * (k : Int) + 1) * g → k % 2 = 0) := by
    intro g hg k hk
    have h1 := Nat.div_add_mod n g
    have h2 := Nat.mod_lt n hg
    generalize n / g = q at *
    generalize n % g = r at *
    subst h1
    by_cases c1 : g < 2 * r
    · have hk' : k = q + 1 := by simp [hk, c1]
      subst hk'
      push_cast
      refine ⟨by grind, by grind, fun h => ?_, fun h => ?_⟩ <;> exfalso <;> grind
    · by_cases c2 : g = 2 * r
      · by_cases c3 : q % 2 = 1
        · have hk' : k = q + 1 := by simp [hk, c2, c3]
          subst hk'
          push_cast
          exact ⟨by grind, by grind, fun _ => by omega, fun _ => by omega⟩
        · have hk' : k = q := by simp [hk, c2, c3]
          subst hk'
          exact ⟨by grind, by grind, fun _ => by omega, fun _ => by omega⟩
      · have hk' : k = q := by
          have : (g == 2 * r) = false := by simpa using c2
          simp [hk, c1, this]
        subst hk'
        refine ⟨by grind, by grind, fun h => ?_, fun h => ?_⟩ <;> exfalso <;> grind
  by_cases hd : d ≤ n.log2 + 2
  · have := key (2 ^ d) (Nat.two_pow_pos d) (Toward.even.cut neg n d) (by
      unfold Toward.cut; simp only [Nat.min_eq_left hd, Nat.one_shiftLeft])
    simpa using this
  · have hlt : 2 * n < 2 ^ (n.log2 + 2) := by
      have := Nat.lt_log2_self (n := n)
      rw [Nat.pow_succ]; omega
    have h0 : Toward.even.cut neg n d = 0 := by
      have hm : min d (n.log2 + 2) = n.log2 + 2 := by omega
      unfold Toward.cut
      simp only [hm, Nat.one_shiftLeft]
      have e1 : n / 2 ^ (n.log2 + 2) = 0 := Nat.div_eq_of_lt (by omega)
      have e2 : n % 2 ^ (n.log2 + 2) = n := Nat.mod_eq_of_lt (by omega)
      rw [e1, e2]
      have e3 : ¬ 2 ^ (n.log2 + 2) < 2 * n := by omega
      have e4 : (2 ^ (n.log2 + 2) == 2 * n) = false := by simp; omega
      simp [e3]
    rw [h0]
    have hle : 2 ^ (n.log2 + 2) ≤ 2 ^ d := Nat.pow_le_pow_right (by omega) (by omega)
    have hlt2 : 2 * n < 2 ^ d := by omega
    have hlt3 : (2 * n : Int) < 2 ^ d := by exact_mod_cast hlt2
    refine ⟨by simp; omega, by simp; omega, fun _ => rfl, fun _ => rfl⟩

/-! the magnitudes -/
def nm (r : Nat) : Nat := if r < 2 ^ 52 then r else 2 ^ 52 + r % 2 ^ 52
def pl (r : Nat) : Int := if r < 2 ^ 52 then -1074 else -1074 + ((r / 2 ^ 52 - 1 : Nat) : Int)
def mg (r : Nat) : Rat := (nm r : Rat) * p2 (pl r)
def INF : Nat := 9218868437227405312
def SGN : Nat := 9223372036854775808
theorem nm_lt (r : Nat) : nm r < 2 ^ 53 := by unfold nm; split <;> omega
theorem pl_ge (r : Nat) : -1074 ≤ pl r := by unfold pl; split <;> omega

theorem mg_rung {e : Int} {k : Nat} (he : -1074 ≤ e) (hk : k ≤ 2 ^ 53) (h : e = -1074 ∨ 2 ^ 52 ≤ k) : mg ((e + 1074).toNat * 2 ^ 52 + k) = (k : Rat) * p2 e := by
  obtain ⟨n, hn⟩ : ∃ n : Nat, e = n - 1074 := ⟨(e + 1074).toNat, by omega⟩
  subst hn
  rw [show ((n : Int) - 1074 + 1074).toNat = n by omega]
  unfold mg
  by_cases h1 : k < 2 ^ 52
  · have : n = 0 := by omega
    subst this
    rw [show nm (0 * 2 ^ 52 + k) = k by unfold nm; split <;> omega, show pl (0 * 2 ^ 52 + k) = ((0 : Nat) : Int) - 1074 by unfold pl; split <;> omega]
  · by_cases h2 : k < 2 ^ 53
    · rw [show nm (n * 2 ^ 52 + k) = k by unfold nm; split <;> omega, show pl (n * 2 ^ 52 + k) = (n : Int) - 1074 by unfold pl; split <;> omega]
    · have : k = 2 ^ 53 := by omega
      subst this
      rw [show nm (n * 2 ^ 52 + 2 ^ 53) = 2 ^ 52 by unfold nm; split <;> omega, show pl (n * 2 ^ 52 + 2 ^ 53) = (n : Int) - 1074 + 1 by unfold pl; split <;> omega]
      rw [p2_succ]
      have : ((2 ^ 53 : Nat) : Rat) = 2 * ((2 ^ 52 : Nat) : Rat) := by decide +kernel
      rw [this]; grind

theorem mg_lt {r s : Nat} (h : r < s) : mg r < mg s := by
  unfold mg
  have hr := p2_pos (pl r)
  have hs := p2_pos (pl s)
  by_cases hE : pl r = pl s
  · have h1 : nm r < nm s := by
      unfold pl at hE; unfold nm
      split at hE <;> split at hE <;> (repeat' split) <;> omega
    rw [hE]
    have : (nm r : Rat) < (nm s : Rat) := by exact_mod_cast h1
    exact (Rat.mul_lt_mul_right hs).2 this
  · have h1 : pl r + 1 ≤ pl s ∧ 2 ^ 52 ≤ nm s := by
      unfold pl at hE ⊢; unfold nm
      split at hE <;> split at hE <;> (repeat' split) <;> omega
    have h2 : (nm r : Rat) < ((2 ^ 53 : Nat) : Rat) := by exact_mod_cast nm_lt r
    have h3 : ((2 ^ 52 : Nat) : Rat) ≤ (nm s : Rat) := by exact_mod_cast h1.2
    have h4 : (nm r : Rat) * p2 (pl r) < p2 (pl r + 53) := by
      have := p2_sub_nat (pl r + 53) 53
      rw [show pl r + 53 - ((53 : Nat) : Int) = pl r by omega] at this
      rw [this]; exact (Rat.mul_lt_mul_right hr).2 h2
    have h5 : p2 (pl s + 52) ≤ (nm s : Rat) * p2 (pl s) := by
      have := p2_sub_nat (pl s + 52) 52
      rw [show pl s + 52 - ((52 : Nat) : Int) = pl s by omega] at this
      rw [this]; exact Rat.mul_le_mul_of_nonneg_right h3 (Rat.le_of_lt hs)
    have h6 := p2_le (a := pl r + 53) (b := pl s + 52) (by omega)
    grind
theorem mg_le {r s : Nat} (h : r ≤ s) : mg r ≤ mg s := by
  rcases Nat.lt_or_eq_of_le h with h | rfl
  · exact Rat.le_of_lt (mg_lt h)
  · exact Rat.le_refl
theorem mg_lt_iff {r s : Nat} : mg r < mg s ↔ r < s := by
  constructor
  · intro h
    by_cases hc : r < s
    · exact hc
    · have := mg_le (r := s) (s := r) (by omega)
      exfalso; grind
  · exact mg_lt
theorem mg_le_iff {r s : Nat} : mg r ≤ mg s ↔ r ≤ s := by
  constructor
  · intro h
    by_cases hc : r ≤ s
    · exact hc
    · have := mg_lt (r := s) (s := r) (by omega)
      exfalso; grind
  · exact mg_le
theorem mg_inf : mg INF = p2 1024 := by
  have := mg_rung (e := 972) (k := 2 ^ 52) (by omega) (by omega) (by omega)
  rw [show ((972 : Int) + 1074).toNat * 2 ^ 52 + 2 ^ 52 = INF by decide +kernel] at this
  rw [this, ← p2_nat, ← p2_add]; rfl
theorem mg_zero : mg 0 = 0 := by unfold mg nm; simp
theorem mg_nonneg (r : Nat) : 0 ≤ mg r := by unfold mg; exact Rat.mul_nonneg Rat.natCast_nonneg (Rat.le_of_lt (p2_pos _))
theorem mg_rep (r : Nat) : Rep (mg r) := ⟨nm r, pl r, pl_ge r, by have := nm_lt r; omega, by rw [Rat.intCast_natCast]; rfl⟩

theorem nearest_spec (neg : Bool) (mag : Nat) (place : Int) : ∃ r, r ≤ INF ∧ double.nearest neg mag place = double.word neg r ∧ mg r = min (rnd ((mag : Rat) * p2 place)) (p2 1024) := by
  by_cases h0 : mag = 0
  · subst h0
    refine ⟨0, by unfold INF; omega, by simp [Format.nearest], ?_⟩
    rw [mg_zero]
    have : ((0 : Nat) : Rat) * p2 place = 0 := by simp
    rw [this, rnd_zero]
    have := p2_pos 1024
    grind
  · generalize hl : max (place + mag.log2 - (52 : Nat)) (-1074) = last
    generalize hA : mag <<< (place - last).toNat = A
    generalize hd : (last - place).toNat = d
    generalize hk : Toward.even.cut neg A d = kept
    have hW : double.nearest neg mag place = double.word neg (min ((last + 1074).toNat * 2 ^ 52 + kept) INF) := by
      unfold Format.nearest
      rw [if_neg h0]
      have e1 : double.leastPlace = -1074 := by decide +kernel
      have e2 : double.binade = 2 ^ 52 := by decide +kernel
      have e3 : double.infRung = INF := by decide +kernel
      have e4 : double.fractionBits = 52 := rfl
      simp only [e1, e2, e3, e4, hl, hA, hd, hk]
      congr 2
    have hx : (mag : Rat) * p2 place = (A : Rat) * p2 (last - d) := by
      rw [← hA, Nat.shiftLeft_eq, Rat.natCast_mul, ← p2_nat, Rat.mul_assoc, ← p2_add]
      congr 2; omega
    have hc := cut_spec neg A d
    rw [hk] at hc
    have hp := p2_pos (last - d)
    have hp' := p2_pos last
    have hpl : p2 last = ((2 ^ d : Nat) : Rat) * p2 (last - d) := by
      have := p2_sub_nat last d
      exact this
    have hR : Rnd ((mag : Rat) * p2 place) ((kept : Rat) * p2 last) kept last := by
      have hlog1 : 2 ^ mag.log2 ≤ mag := Nat.log2_self_le h0
      have hlog2 : mag < 2 ^ (mag.log2 + 1) := Nat.lt_log2_self
      have hpp := p2_pos place
      refine ⟨by omega, ?_, ?_, ?_, ?_, ?_, ?_, rfl⟩
      · by_cases hc1 : last = -1074
        · exact .inl hc1
        · right
          have : last + 52 = mag.log2 + place := by omega
          rw [this, p2_add, p2_nat]
          have : ((2 ^ mag.log2 : Nat) : Rat) ≤ (mag : Rat) := by exact_mod_cast hlog1
          exact Rat.mul_le_mul_of_nonneg_right this (Rat.le_of_lt hpp)
      · have h1 : (mag : Rat) * p2 place < p2 (((mag.log2 + 1 : Nat) : Int) + place) := by
          rw [p2_add, p2_nat]
          have : (mag : Rat) < ((2 ^ (mag.log2 + 1) : Nat) : Rat) := by exact_mod_cast hlog2
          exact (Rat.mul_lt_mul_right hpp).2 this
        have h2 := p2_le (a := ((mag.log2 + 1 : Nat) : Int) + place) (b := last + 53) (by omega)
        grind
      · rw [hx, hpl]
        have h1 : (((2 * (kept : Int) - 1) * 2 ^ d : Int) : Rat) ≤ ((2 * (A : Int) : Int) : Rat) := Rat.intCast_le_intCast.2 hc.1
        have h2 := Rat.mul_le_mul_of_nonneg_right h1 (Rat.le_of_lt hp)
        push_cast at h2 ⊢
        grind
      · rw [hx, hpl]
        have h1 : ((2 * (A : Int) : Int) : Rat) ≤ (((2 * (kept : Int) + 1) * 2 ^ d : Int) : Rat) := Rat.intCast_le_intCast.2 hc.2.1
        have h2 := Rat.mul_le_mul_of_nonneg_right h1 (Rat.le_of_lt hp)
        push_cast at h2 ⊢
        grind
      · intro h
        apply hc.2.2.1
        rw [hx, hpl] at h
        have h3 : ((2 * (A : Int) : Int) : Rat) * p2 (last - d) = (((2 * (kept : Int) - 1) * 2 ^ d : Int) : Rat) * p2 (last - d) := by
          push_cast at h ⊢
          grind
        exact Rat.intCast_inj.1 (mul_cancel hp h3)
      · intro h
        apply hc.2.2.2
        rw [hx, hpl] at h
        have h3 : ((2 * (A : Int) : Int) : Rat) * p2 (last - d) = (((2 * (kept : Int) + 1) * 2 ^ d : Int) : Rat) * p2 (last - d) := by
          push_cast at h ⊢
          grind
        exact Rat.intCast_inj.1 (mul_cancel hp h3)
    have hnn : 0 ≤ (mag : Rat) * p2 place := Rat.mul_nonneg Rat.natCast_nonneg (Rat.le_of_lt (p2_pos place))
    have hrnd := hR.eq hnn
    have hmg : mg ((last + 1074).toNat * 2 ^ 52 + kept) = (kept : Rat) * p2 last := by
      refine mg_rung hR.least hR.k_le ?_
      rcases hR.low with h | h
      · exact .inl h
      · exact .inr (hR.le_k h)
    refine ⟨_, Nat.min_le_right _ _, hW, ?_⟩
    rw [hrnd, ← hmg, ← mg_inf]
    generalize (last + 1074).toNat * 2 ^ 52 + kept = R
    by_cases h : R ≤ INF
    · have := mg_le h
      rw [Nat.min_eq_left h]; grind
    · have := mg_le (r := INF) (s := R) (by omega)
      rw [Nat.min_eq_right (by omega)]; grind
end Lk
