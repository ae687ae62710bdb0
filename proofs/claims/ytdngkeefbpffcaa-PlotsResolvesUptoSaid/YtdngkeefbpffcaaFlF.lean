import Derived.Test.YtdngkeefbpffcaaFlE
set_option autoImplicit false
namespace Lk
open Ieee

def fneg (w : Nat) : Nat := wd (!sgn w) (rg w)
theorem rg_lt (w : Nat) : rg w < SGN := by unfold rg SGN; omega
theorem sgn_wd' (neg : Bool) {r : Nat} (h : r < SGN) : sgn (wd neg r) = neg := by
  unfold sgn wd SGN; unfold SGN at h
  cases neg
  · have : r / 9223372036854775808 % 2 = 0 := by omega
    simp [this]
  · have : (9223372036854775808 + r) / 9223372036854775808 % 2 = 1 := by omega
    simp only [if_true, this]; rfl
theorem rg_wd' (neg : Bool) {r : Nat} (h : r < SGN) : rg (wd neg r) = r := by
  unfold rg wd SGN; unfold SGN at h
  cases neg <;> simp <;> omega
theorem sgn_fneg (w : Nat) : sgn (fneg w) = !sgn w := sgn_wd' _ (rg_lt w)
theorem rg_fneg (w : Nat) : rg (fneg w) = rg w := rg_wd' _ (rg_lt w)
theorem ev_fneg (w : Nat) : ev (fneg w) = - ev w := by
  unfold ev; rw [sgn_fneg, rg_fneg]; unfold sv; cases sgn w <;> simp
theorem fin_fneg {w : Nat} : Fin (fneg w) ↔ Fin w := by unfold Fin; rw [rg_fneg]
theorem inf_fneg {w : Nat} : Inf (fneg w) ↔ Inf w := by unfold Inf; rw [rg_fneg]
theorem nan_fneg {w : Nat} : Nan (fneg w) ↔ Nan w := by unfold Nan; rw [rg_fneg]
theorem read_fneg (w : Nat) : double.read (fneg w) = (double.read w).opposite := by
  rw [read_eq, read_eq, sgn_fneg, rg_fneg]
  split
  · rfl
  · split <;> rfl
theorem sub_eq (x y : Nat) : double.sub x y = double.add x (fneg y) := by
  unfold Format.sub Format.add; rw [read_fneg]
theorem fsub_eq (x y : Nat) : fsub x y = fadd x (fneg y) := by unfold fsub fadd; rw [sub_eq]

theorem add_fin {x y : Nat} (hx : Fin x) (hy : Fin y) : ∃ c, double.add x y = some c ∧ c < 2 ^ 64 ∧ ¬ Nan c ∧ ev c = rc (ev x + ev y) ∧
    sgn c = if ev x + ev y = 0 then sgn x && sgn y else decide (ev x + ev y < 0) := by
  unfold Format.add; rw [read_fin hx, read_fin hy]; exact sum_spec _ _ _ _ _ _
theorem wd_inf_nan (s : Bool) : ¬ Nan (wd s INF) := by unfold Nan; rw [rg_wd s (Nat.le_refl _)]; omega
theorem write_inf (s : Bool) : double.write (.infinity s) = wd s INF := by
  show double.word s double.infRung = _
  rw [word_eq]; congr 1
theorem add_inf_fin {x y : Nat} (hx : Inf x) (hy : Fin y) : double.add x y = some (wd (sgn x) INF) := by
  unfold Format.add; rw [read_inf hx, read_fin hy]; simp only [Datum.sum, Option.map_some, write_inf]
theorem add_fin_inf {x y : Nat} (hx : Fin x) (hy : Inf y) : double.add x y = some (wd (sgn y) INF) := by
  unfold Format.add; rw [read_fin hx, read_inf hy]; simp only [Datum.sum, Option.map_some, write_inf]
theorem add_inf_inf {x y : Nat} (hx : Inf x) (hy : Inf y) : double.add x y = if sgn x = sgn y then some (wd (sgn x) INF) else none := by
  unfold Format.add; rw [read_inf hx, read_inf hy]; simp only [Datum.sum]; split <;> simp [write_inf]
theorem add_nan {x y : Nat} (h : Nan x ∨ Nan y) : double.add x y = none := by
  unfold Format.add
  rcases h with h | h
  · rw [read_nan h]; cases double.read y <;> rfl
  · rw [read_nan h]; cases double.read x <;> rfl

theorem sv_mul (s t : Bool) (a b : Rat) : sv (s ^^ t) (a * b) = sv s a * sv t b := by
  unfold sv; cases s <;> cases t <;> simp <;> grind
theorem mul_fin {x y : Nat} (hx : Fin x) (hy : Fin y) : ∃ c, double.mul x y = some c ∧ c < 2 ^ 64 ∧ ¬ Nan c ∧ ev c = rc (ev x * ev y) ∧ sgn c = (sgn x ^^ sgn y) := by
  unfold Format.mul; rw [read_fin hx, read_fin hy]
  simp only [Datum.product, Option.map_some]
  obtain ⟨c, h1, h2, h3, h4, h5⟩ := write_number (sgn x ^^ sgn y) (nm (rg x) * nm (rg y)) (pl (rg x) + pl (rg y))
  refine ⟨c, by rw [h1], h2, h3, ?_, h4⟩
  rw [h5]
  unfold ev
  rw [← sv_mul]
  congr 2
  unfold mg; rw [Rat.natCast_mul, p2_add]; grind
theorem nm_zero_iff (r : Nat) : nm r = 0 ↔ r = 0 := by unfold nm; split <;> omega
theorem mul_inf_fin {x y : Nat} (hx : Inf x) (hy : Fin y) (h0 : ev y ≠ 0) : double.mul x y = some (wd (sgn x ^^ sgn y) INF) := by
  have h1 : nm (rg y) ≠ 0 := fun h => h0 (ev_zero_iff.2 ((nm_zero_iff _).1 h))
  unfold Format.mul; rw [read_inf hx, read_fin hy]; simp only [Datum.product, if_neg h1, Option.map_some, write_inf]
theorem mul_fin_inf {x y : Nat} (hx : Fin x) (hy : Inf y) (h0 : ev x ≠ 0) : double.mul x y = some (wd (sgn x ^^ sgn y) INF) := by
  have h1 : nm (rg x) ≠ 0 := fun h => h0 (ev_zero_iff.2 ((nm_zero_iff _).1 h))
  unfold Format.mul; rw [read_fin hx, read_inf hy]; simp only [Datum.product, if_neg h1, Option.map_some, write_inf, Bool.xor_comm]
theorem mul_inf_zero {x y : Nat} (hx : Inf x) (h0 : ev y = 0) : double.mul x y = none := by
  have h1 := ev_zero_iff.1 h0
  have hy : Fin y := by unfold Fin; rw [h1]; unfold INF; omega
  have h2 : nm (rg y) = 0 := (nm_zero_iff _).2 h1
  unfold Format.mul; rw [read_inf hx, read_fin hy]; simp only [Datum.product, if_pos h2]; rfl
theorem mul_zero_inf {x y : Nat} (h0 : ev x = 0) (hy : Inf y) : double.mul x y = none := by
  have h1 := ev_zero_iff.1 h0
  have hx : Fin x := by unfold Fin; rw [h1]; unfold INF; omega
  have h2 : nm (rg x) = 0 := (nm_zero_iff _).2 h1
  unfold Format.mul; rw [read_fin hx, read_inf hy]; simp only [Datum.product, if_pos h2]; rfl
theorem mul_inf_inf {x y : Nat} (hx : Inf x) (hy : Inf y) : double.mul x y = some (wd (sgn x ^^ sgn y) INF) := by
  unfold Format.mul; rw [read_inf hx, read_inf hy]; simp only [Datum.product, Option.map_some, write_inf]
theorem mul_nan {x y : Nat} (h : Nan x ∨ Nan y) : double.mul x y = none := by
  unfold Format.mul
  rcases h with h | h
  · rw [read_nan h]; cases double.read y <;> rfl
  · rw [read_nan h]; cases double.read x <;> rfl

/-- what is left over is told by one digit: it rounds the same -/
theorem sticky {m n more : Nat} (hn : n ≠ 0) (hq : 2 ^ 53 ≤ (m <<< more) / n) (u : Int) :
    rnd (((2 * ((m <<< more) / n) + ((m <<< more) % n != 0).toNat : Nat) : Rat) * p2 u) = rnd ((m : Rat) / (n : Rat) * p2 (more + u + 1)) := by
  generalize hD : m <<< more = D at *
  have hdm := Nat.div_add_mod D n
  have hlt := Nat.mod_lt D (Nat.pos_of_ne_zero hn)
  have hnp : (0 : Rat) < (n : Rat) := by exact_mod_cast Nat.pos_of_ne_zero hn
  have hne : (n : Rat) ≠ 0 := by intro h; rw [h] at hnp; exact absurd hnp (by decide)
  -- the true value, in units of p2 u
  have hX : (m : Rat) / (n : Rat) * p2 (more + u + 1) = (2 * (D : Rat) / (n : Rat)) * p2 u := by
    rw [p2_succ, p2_add, p2_nat, ← hD, Nat.shiftLeft_eq, Rat.natCast_mul]
    simp only [Rat.div_def]; grind
  rw [hX]
  generalize hq' : D / n = q at *
  generalize hr' : D % n = r at *
  have hDr : (D : Rat) = (n : Rat) * (q : Rat) + (r : Rat) := by rw [← hdm]; push_cast; rfl
  by_cases h0 : r = 0
  · subst h0
    congr 2
    have : 2 * (D : Rat) / (n : Rat) = 2 * (q : Rat) := by
      rw [hDr]
      have : 2 * ((n : Rat) * (q : Rat) + ((0 : Nat) : Rat)) = (2 * (q : Rat)) * (n : Rat) := by push_cast; grind
      rw [this, Rat.mul_div_cancel hne]
    rw [this]; simp
  · have hb : (r != 0).toNat = 1 := by simp [h0]
    rw [hb]
    have hrp : (0 : Rat) < (r : Rat) := by exact_mod_cast Nat.pos_of_ne_zero h0
    have hrn : (r : Rat) < (n : Rat) := by exact_mod_cast hlt
    -- z: the true value
    obtain ⟨z, hz⟩ : ∃ z, z = 2 * (D : Rat) / (n : Rat) := ⟨_, rfl⟩
    have hzn : z * (n : Rat) = 2 * (D : Rat) := by rw [hz]; exact Rat.div_mul_cancel hne
    rw [← hz]
    have z1 : 2 * (q : Rat) < z := by
      have : (2 * (q : Rat)) * (n : Rat) < z * (n : Rat) := by rw [hzn, hDr]; grind
      exact (Rat.mul_lt_mul_right hnp).1 this
    have z2 : z < 2 * (q : Rat) + 2 := by
      have : z * (n : Rat) < (2 * (q : Rat) + 2) * (n : Rat) := by rw [hzn, hDr]; grind
      exact (Rat.mul_lt_mul_right hnp).1 this
    have hu := p2_pos u
    have hQ : ((2 * q + 1 : Nat) : Rat) = 2 * (q : Rat) + 1 := by push_cast; rfl
    have hnn : 0 ≤ ((2 * q + 1 : Nat) : Rat) * p2 u := Rat.mul_nonneg Rat.natCast_nonneg (Rat.le_of_lt hu)
    have hq0 : (0 : Rat) ≤ (q : Rat) := Rat.natCast_nonneg
    have hnn' : 0 ≤ z * p2 u := Rat.mul_nonneg (by grind) (Rat.le_of_lt hu)
    obtain ⟨k, e, h⟩ := rnd_spec hnn
    -- e is at least u + 2
    have he : u + 2 ≤ e := by
      have h1 := h.high
      have h2 : p2 (u + 54) ≤ ((2 * q + 1 : Nat) : Rat) * p2 u := by
        have h3 : p2 (u + 54) = ((2 ^ 54 : Nat) : Rat) * p2 u := by
          have := p2_sub_nat (u + 54) 54
          rw [show u + 54 - ((54 : Nat) : Int) = u by omega] at this
          exact this
        rw [h3]
        have : ((2 ^ 54 : Nat) : Rat) ≤ ((2 * q + 1 : Nat) : Rat) := by
          have : 2 ^ 54 ≤ 2 * q + 1 := by omega
          exact_mod_cast this
        exact Rat.mul_le_mul_of_nonneg_right this (Rat.le_of_lt hu)
      have : u + 54 < e + 53 := p2_lt_iff.1 (by grind)
      omega
    obtain ⟨d, hd⟩ : ∃ d : Nat, e = ((d + 2 : Nat) : Int) + u := ⟨(e - u - 2).toNat, by omega⟩
    have hpe : p2 e = (2 * ((2 * 2 ^ d : Nat) : Rat)) * p2 u := by
      rw [hd, p2_add, p2_nat, show 2 ^ (d + 2) = 2 * (2 * 2 ^ d) by rw [Nat.pow_add]; omega]; push_cast; grind
    generalize 2 ^ d = G at hpe
    -- in whole numbers
    have b1 : (2 * (k : Int) - 1) * (2 * G) ≤ 2 * q := by
      have h1 := h.below
      rw [hpe, hQ] at h1
      have h2 : ((2 * (k : Rat) - 1) * (2 * ((2 * G : Nat) : Rat))) * p2 u ≤ (2 * (2 * (q : Rat) + 1)) * p2 u := by grind
      have h3 := Rat.le_of_mul_le_mul_right h2 hu
      have h4 : (((2 * (k : Int) - 1) * (2 * (2 * G)) : Int) : Rat) ≤ ((2 * (2 * (q : Int) + 1) : Int) : Rat) := by
        push_cast at h3 ⊢; grind
      have h5 : (2 * (k : Int) - 1) * (2 * (2 * G)) ≤ 2 * (2 * (q : Int) + 1) := by exact_mod_cast h4
      have h6 : (2 * (k : Int) - 1) * (2 * (2 * G)) = 2 * (2 * ((2 * (k : Int) - 1) * G)) := by grind
      have h7 : (2 * (k : Int) - 1) * (2 * G) = 2 * ((2 * (k : Int) - 1) * G) := by grind
      omega
    have b2 : (2 * (q : Int) + 2) ≤ (2 * (k : Int) + 1) * (2 * G) := by
      have h1 := h.above
      rw [hpe, hQ] at h1
      have h2 : (2 * (2 * (q : Rat) + 1)) * p2 u ≤ ((2 * (k : Rat) + 1) * (2 * ((2 * G : Nat) : Rat))) * p2 u := by grind
      have h3 := Rat.le_of_mul_le_mul_right h2 hu
      have h4 : ((2 * (2 * (q : Int) + 1) : Int) : Rat) ≤ (((2 * (k : Int) + 1) * (2 * (2 * G)) : Int) : Rat) := by
        push_cast at h3 ⊢; grind
      have h5 : 2 * (2 * (q : Int) + 1) ≤ (2 * (k : Int) + 1) * (2 * (2 * G)) := by exact_mod_cast h4
      have h6 : (2 * (k : Int) + 1) * (2 * (2 * G)) = 2 * (2 * ((2 * (k : Int) + 1) * G)) := by grind
      have h7 : (2 * (k : Int) + 1) * (2 * G) = 2 * ((2 * (k : Int) + 1) * G) := by grind
      omega
    have c1 : (2 * (k : Rat) - 1) * ((2 * G : Nat) : Rat) ≤ 2 * (q : Rat) := by
      have : (((2 * (k : Int) - 1) * (2 * G) : Int) : Rat) ≤ ((2 * q : Int) : Rat) := by exact_mod_cast b1
      push_cast at this ⊢; grind
    have c2 : 2 * (q : Rat) + 2 ≤ (2 * (k : Rat) + 1) * ((2 * G : Nat) : Rat) := by
      have : ((2 * (q : Int) + 2 : Int) : Rat) ≤ (((2 * (k : Int) + 1) * (2 * G) : Int) : Rat) := by exact_mod_cast b2
      push_cast at this ⊢; grind
    have hR : Rnd (z * p2 u) ((k : Rat) * p2 e) k e := by
      refine ⟨h.least, ?_, ?_, ?_, ?_, ?_, ?_, rfl⟩
      · rcases h.low with h1 | h1
        · exact .inl h1
        · right
          -- p2 (e+52) is an even number of units
          have h3 : p2 (e + 52) = (((2 ^ 52 : Nat) : Rat) * (2 * ((2 * G : Nat) : Rat))) * p2 u := by
            have := p2_sub_nat (e + 52) 52
            rw [show e + 52 - ((52 : Nat) : Int) = e by omega] at this
            rw [this, hpe]; grind
          rw [h3, hQ] at h1
          have h4 := Rat.le_of_mul_le_mul_right h1 hu
          have h5 : ((2 ^ 52 * (2 * (2 * G)) : Nat) : Rat) ≤ ((2 * q + 1 : Nat) : Rat) := by push_cast at h4 ⊢; grind
          have h6 : 2 ^ 52 * (2 * (2 * G)) ≤ 2 * q + 1 := by exact_mod_cast h5
          have h7 : 2 ^ 52 * (2 * (2 * G)) ≤ 2 * q := by omega
          have h8 : ((2 ^ 52 * (2 * (2 * G)) : Nat) : Rat) ≤ ((2 * q : Nat) : Rat) := by exact_mod_cast h7
          rw [h3]
          refine Rat.mul_le_mul_of_nonneg_right ?_ (Rat.le_of_lt hu)
          push_cast at h8 ⊢; grind
      · have h1 := h.high
        have h3 : p2 (e + 53) = (((2 ^ 53 : Nat) : Rat) * (2 * ((2 * G : Nat) : Rat))) * p2 u := by
          have := p2_sub_nat (e + 53) 53
          rw [show e + 53 - ((53 : Nat) : Int) = e by omega] at this
          rw [this, hpe]; grind
        rw [h3, hQ] at h1
        have h4 := (Rat.mul_lt_mul_right hu).1 h1
        have h5 : ((2 * q + 1 : Nat) : Rat) < ((2 ^ 53 * (2 * (2 * G)) : Nat) : Rat) := by push_cast at h4 ⊢; grind
        have h6 : 2 * q + 1 < 2 ^ 53 * (2 * (2 * G)) := by exact_mod_cast h5
        have h7 : 2 * q + 2 ≤ 2 ^ 53 * (2 * (2 * G)) := by omega
        have h8 : ((2 * q + 2 : Nat) : Rat) ≤ ((2 ^ 53 * (2 * (2 * G)) : Nat) : Rat) := by exact_mod_cast h7
        rw [h3]
        refine (Rat.mul_lt_mul_right hu).2 ?_
        push_cast at h8 ⊢; grind
      · rw [hpe]
        have : ((2 * (k : Rat) - 1) * (2 * ((2 * G : Nat) : Rat))) * p2 u ≤ (2 * z) * p2 u := Rat.mul_le_mul_of_nonneg_right (by grind) (Rat.le_of_lt hu)
        grind
      · rw [hpe]
        have : (2 * z) * p2 u ≤ ((2 * (k : Rat) + 1) * (2 * ((2 * G : Nat) : Rat))) * p2 u := Rat.mul_le_mul_of_nonneg_right (by grind) (Rat.le_of_lt hu)
        grind
      · intro ht
        exfalso
        rw [hpe] at ht
        have ht' : (2 * z) * p2 u = ((2 * (k : Rat) - 1) * (2 * ((2 * G : Nat) : Rat))) * p2 u := by grind
        have := mul_cancel hu ht'
        grind
      · intro ht
        exfalso
        rw [hpe] at ht
        have ht' : (2 * z) * p2 u = ((2 * (k : Rat) + 1) * (2 * ((2 * G : Nat) : Rat))) * p2 u := by grind
        have := mul_cancel hu ht'
        grind
    rw [hR.eq hnn', h.val]

theorem rat_div_mul (a b c d : Rat) (_hb : b ≠ 0) (_hd : d ≠ 0) : (a * c) / (b * d) = a / b * (c / d) := by
  simp only [Rat.div_def, Rat.inv_mul_rev]; grind
theorem p2_inv (e : Int) : (p2 e)⁻¹ = p2 (-e) := Rat.inv_eq_of_mul_eq_one (p2_neg e)
theorem p2_ne (e : Int) : p2 e ≠ 0 := by have := p2_pos e; grind
theorem rc_rnd {x y : Rat} (h : rnd x = rnd y) : rc x = rc y := by unfold rc; rw [h]
theorem sv_div (s t : Bool) (a b : Rat) : sv (s ^^ t) (a / b) = sv s a / sv t b := by
  unfold sv
  have h : (-b)⁻¹ = -(b⁻¹) := by
    by_cases h0 : b = 0
    · subst h0; simp
    · refine Rat.inv_eq_of_mul_eq_one ?_
      have := Rat.mul_inv_cancel b h0
      grind
  cases s <;> cases t <;> simp only [Bool.xor_false, Bool.xor_true, Bool.not_false, Bool.not_true, if_true, Bool.false_eq_true, if_false, Rat.div_def, h] <;> grind

theorem div_fin {x y : Nat} (hx : Fin x) (hy : Fin y) (h0 : ev y ≠ 0) : ∃ c, double.div x y = some c ∧ c < 2 ^ 64 ∧ ¬ Nan c ∧ ev c = rc (ev x / ev y) ∧ sgn c = (sgn x ^^ sgn y) := by
  have h1 : nm (rg y) ≠ 0 := fun h => h0 (ev_zero_iff.2 ((nm_zero_iff _).1 h))
  unfold Format.div; rw [read_fin hx, read_fin hy]
  simp only [Datum.quotient, if_neg h1, Option.map_some]
  generalize hmo : double.fractionBits + 2 + (nm (rg y)).log2 - (nm (rg x)).log2 = more
  obtain ⟨c, h2, h3, h4, h5, h6⟩ := write_number (sgn x ^^ sgn y) (2 * (nm (rg x) <<< more / nm (rg y)) + (nm (rg x) <<< more % nm (rg y) != 0).toNat) (pl (rg x) - pl (rg y) - more - 1)
  refine ⟨c, by rw [h2], h3, h4, ?_, h5⟩
  rw [h6]
  have hm := nm_lt (rg x)
  have hval : ev x / ev y = sv (sgn x ^^ sgn y) ((nm (rg x) : Rat) / (nm (rg y) : Rat) * p2 (more + (pl (rg x) - pl (rg y) - more - 1) + 1)) := by
    unfold ev; rw [← sv_div]; congr 1
    unfold mg
    have hne : ((nm (rg y) : Nat) : Rat) ≠ 0 := by
      have : (0 : Rat) < (nm (rg y) : Rat) := by exact_mod_cast Nat.pos_of_ne_zero h1
      grind
    rw [rat_div_mul _ _ _ _ hne (p2_ne _)]
    congr 1
    rw [Rat.div_def, p2_inv, ← p2_add]; congr 1; omega
  rw [hval]
  by_cases hz : nm (rg x) = 0
  · rw [hz]
    simp only [Nat.zero_shiftLeft, Nat.zero_div, Nat.zero_mod]
    have e1 : ((2 * 0 + ((0 : Nat) != 0).toNat : Nat) : Rat) * p2 (pl (rg x) - pl (rg y) - more - 1) = 0 := by simp
    have e2 : ((0 : Nat) : Rat) / (nm (rg y) : Rat) * p2 (more + (pl (rg x) - pl (rg y) - more - 1) + 1) = 0 := by simp [Rat.div_def]
    rw [e1, e2]
  · have hq : 2 ^ 53 ≤ (nm (rg x) <<< more) / nm (rg y) := by
      rw [Nat.le_div_iff_mul_le (Nat.pos_of_ne_zero h1), Nat.shiftLeft_eq]
      have g1 : 2 ^ (nm (rg x)).log2 ≤ nm (rg x) := Nat.log2_self_le hz
      have g2 : nm (rg y) < 2 ^ ((nm (rg y)).log2 + 1) := Nat.lt_log2_self
      have g3 : (nm (rg x)).log2 < 53 := (Nat.log2_lt hz).2 hm
      have g4 : more + (nm (rg x)).log2 = 54 + (nm (rg y)).log2 := by
        rw [← hmo]; show 52 + 2 + _ - _ + _ = _; omega
      calc 2 ^ 53 * nm (rg y) ≤ 2 ^ 53 * 2 ^ ((nm (rg y)).log2 + 1) := Nat.mul_le_mul_left _ (Nat.le_of_lt g2)
        _ = 2 ^ (nm (rg x)).log2 * 2 ^ more := by rw [← Nat.pow_add, ← Nat.pow_add]; congr 1; omega
        _ ≤ nm (rg x) * 2 ^ more := Nat.mul_le_mul_right _ g1
    have := sticky h1 hq (pl (rg x) - pl (rg y) - more - 1)
    cases (sgn x ^^ sgn y)
    · exact rc_rnd this
    · simp only [sv, if_true]; rw [rc_neg, rc_neg]; rw [rc_rnd this]
theorem div_zero {x y : Nat} (hx : Fin x) (hx0 : ev x ≠ 0) (h0 : ev y = 0) : double.div x y = some (wd (sgn x ^^ sgn y) INF) := by
  have h1 := ev_zero_iff.1 h0
  have hy : Fin y := by unfold Fin; rw [h1]; unfold INF; omega
  have h2 : nm (rg y) = 0 := (nm_zero_iff _).2 h1
  have h3 : nm (rg x) ≠ 0 := fun h => hx0 (ev_zero_iff.2 ((nm_zero_iff _).1 h))
  unfold Format.div; rw [read_fin hx, read_fin hy]; simp only [Datum.quotient, if_pos h2, if_neg h3, Option.map_some, write_inf]
theorem div_zero_zero {x y : Nat} (hx0 : ev x = 0) (h0 : ev y = 0) : double.div x y = none := by
  have h1 := ev_zero_iff.1 h0
  have hy : Fin y := by unfold Fin; rw [h1]; unfold INF; omega
  have h2 : nm (rg y) = 0 := (nm_zero_iff _).2 h1
  have h1' := ev_zero_iff.1 hx0
  have hx : Fin x := by unfold Fin; rw [h1']; unfold INF; omega
  have h3 : nm (rg x) = 0 := (nm_zero_iff _).2 h1'
  unfold Format.div; rw [read_fin hx, read_fin hy]; simp only [Datum.quotient, if_pos h2, if_pos h3]; rfl
theorem div_inf_fin {x y : Nat} (hx : Inf x) (hy : Fin y) : double.div x y = some (wd (sgn x ^^ sgn y) INF) := by
  unfold Format.div; rw [read_inf hx, read_fin hy]; simp only [Datum.quotient, Option.map_some, write_inf]
theorem div_fin_inf {x y : Nat} (hx : Fin x) (hy : Inf y) : double.div x y = some (wd (sgn x ^^ sgn y) 0) := by
  unfold Format.div; rw [read_fin hx, read_inf hy]; simp only [Datum.quotient, Option.map_some]
  show some (double.nearest _ 0 0) = _
  simp only [Format.nearest, if_true, word_eq]
theorem div_inf_inf {x y : Nat} (hx : Inf x) (hy : Inf y) : double.div x y = none := by
  unfold Format.div; rw [read_inf hx, read_inf hy]; rfl
theorem div_nan {x y : Nat} (h : Nan x ∨ Nan y) : double.div x y = none := by
  unfold Format.div
  rcases h with h | h
  · rw [read_nan h]; cases double.read y <;> rfl
  · rw [read_nan h]; cases double.read x <;> rfl

/-! comparing -/
def cmpR (a b : Rat) : Ordering := if a < b then .lt else if a = b then .eq else .gt
theorem order_nan {x y : Nat} (h : Nan x ∨ Nan y) : double.order x y = none := by
  unfold Format.order
  rcases h with h | h
  · rw [read_nan h]; cases double.read y <;> rfl
  · rw [read_nan h]; cases double.read x <;> rfl
theorem cmpR_scale {a b c : Rat} (hc : 0 < c) : cmpR (a * c) (b * c) = cmpR a b := by
  unfold cmpR
  have h1 : a * c < b * c ↔ a < b := Rat.mul_lt_mul_right hc
  have h2 : a * c = b * c ↔ a = b := ⟨mul_cancel hc, fun h => by rw [h]⟩
  simp only [h1, h2]
theorem cmpR_int (a b : Int) : cmpR (a : Rat) (b : Rat) = compare a b := by
  unfold cmpR
  rw [show compare a b = compareOfLessAndEq a b from rfl]
  unfold compareOfLessAndEq
  simp only [Rat.intCast_lt_intCast, Rat.intCast_inj]
theorem order_ev {x y : Nat} (hx : ¬ Nan x) (hy : ¬ Nan y) : double.order x y = some (cmpR (ev x) (ev y)) := by
  have hP := p2_pos 1024
  unfold Format.order
  rcases not_nan hx with hx | hx <;> rcases not_nan hy with hy | hy
  · rw [read_fin hx, read_fin hy]
    simp only [Datum.order]
    refine congrArg some ?_
    generalize hb : min (pl (rg x)) (pl (rg y)) = base
    have e1 := signed_val (sgn x) (nm (rg x)) (pl (rg x) - base).toNat base
    have e2 := signed_val (sgn y) (nm (rg y)) (pl (rg y) - base).toNat base
    rw [show base + ((pl (rg x) - base).toNat : Int) = pl (rg x) by omega] at e1
    rw [show base + ((pl (rg y) - base).toNat : Int) = pl (rg y) by omega] at e2
    have e3 : ev x = ((signed (sgn x) (nm (rg x)) (pl (rg x) - base).toNat : Int) : Rat) * p2 base := e1.symm
    have e4 : ev y = ((signed (sgn y) (nm (rg y)) (pl (rg y) - base).toNat : Int) : Rat) * p2 base := e2.symm
    rw [e3, e4, cmpR_scale (p2_pos base), cmpR_int]
  · rw [read_fin hx, read_inf hy, ev_inf hy]
    have := ev_fin hx
    simp only [Datum.order, sv, cmpR]
    refine congrArg some ?_
    generalize p2 1024 = B at *
    cases sgn y <;> simp <;> grind
  · rw [read_inf hx, read_fin hy, ev_inf hx]
    have := ev_fin hy
    simp only [Datum.order, sv, cmpR]
    refine congrArg some ?_
    generalize p2 1024 = B at *
    cases sgn x <;> simp <;> grind
  · rw [read_inf hx, read_inf hy, ev_inf hx, ev_inf hy]
    simp only [Datum.order, sv, cmpR]
    refine congrArg some ?_
    generalize p2 1024 = B at *
    have c1 : compare (1 : Nat) 0 = .gt := by decide
    have c2 : compare (0 : Nat) 1 = .lt := by decide
    cases sgn x <;> cases sgn y <;> simp [c1, c2] <;> grind
end Lk
