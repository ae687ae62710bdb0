import Derived.Test.YtdngkeefbpffcaaFlD
set_option autoImplicit false
namespace Lk
open Ieee

def sgn (w : Nat) : Bool := w / SGN % 2 == 1
def rg (w : Nat) : Nat := w % SGN
def Nan (w : Nat) : Prop := INF < rg w
def Fin (w : Nat) : Prop := rg w < INF
def Inf (w : Nat) : Prop := rg w = INF
instance (w : Nat) : Decidable (Nan w) := by unfold Nan; infer_instance
instance (w : Nat) : Decidable (Fin w) := by unfold Fin; infer_instance
instance (w : Nat) : Decidable (Inf w) := by unfold Inf; infer_instance
def sv (neg : Bool) (x : Rat) : Rat := if neg then -x else x
def ev (w : Nat) : Rat := sv (sgn w) (mg (rg w))
def wd (neg : Bool) (r : Nat) : Nat := if neg then SGN + r else r

theorem word_eq (neg : Bool) (r : Nat) : double.word neg r = wd neg r := by
  unfold Format.word wd
  have : double.signWeight = SGN := by decide +kernel
  rw [this]
theorem sgn_wd (neg : Bool) {r : Nat} (h : r ≤ INF) : sgn (wd neg r) = neg := by
  unfold sgn wd SGN; unfold INF at h
  cases neg
  · have : r / 9223372036854775808 % 2 = 0 := by omega
    simp [this]
  · have : (9223372036854775808 + r) / 9223372036854775808 % 2 = 1 := by omega
    simp only [if_true, this]; rfl
theorem rg_wd (neg : Bool) {r : Nat} (h : r ≤ INF) : rg (wd neg r) = r := by
  unfold rg wd SGN; unfold INF at h
  cases neg <;> simp <;> omega
theorem wd_lt (neg : Bool) {r : Nat} (h : r ≤ INF) : wd neg r < 2 ^ 64 := by
  unfold wd SGN; unfold INF at h
  cases neg <;> simp <;> omega
theorem ev_wd (neg : Bool) {r : Nat} (h : r ≤ INF) : ev (wd neg r) = sv neg (mg r) := by unfold ev; rw [sgn_wd neg h, rg_wd neg h]

theorem read_eq (w : Nat) : double.read w = if rg w < INF then .number (sgn w) (nm (rg w)) (pl (rg w)) else if rg w = INF then .infinity (sgn w) else .nan (sgn w) (rg w - INF) := by
  unfold Format.read rg sgn nm pl
  have e1 : double.leastPlace = -1074 := by decide +kernel
  have e2 : double.binade = 2 ^ 52 := by decide +kernel
  have e3 : double.infRung = INF := by decide +kernel
  have e4 : double.signWeight = SGN := by decide +kernel
  simp only [e1, e2, e3, e4]
  by_cases h1 : w % SGN < 2 ^ 52
  · have h2 : w % SGN < INF := by unfold INF; omega
    rw [if_pos h1, if_pos h2, if_pos h1, if_pos h1]
  · rw [if_neg h1, if_neg h1, if_neg h1]
theorem read_fin {w : Nat} (h : Fin w) : double.read w = .number (sgn w) (nm (rg w)) (pl (rg w)) := by unfold Fin at h; rw [read_eq, if_pos h]
theorem read_inf {w : Nat} (h : Inf w) : double.read w = .infinity (sgn w) := by
  unfold Inf at h
  rw [read_eq, if_neg (by omega), if_pos h]
theorem read_nan {w : Nat} (h : Nan w) : double.read w = .nan (sgn w) (rg w - INF) := by
  unfold Nan at h
  rw [read_eq, if_neg (by omega), if_neg (by omega)]
theorem fin_or (w : Nat) : Fin w ∨ Inf w ∨ Nan w := by unfold Fin Inf Nan; omega
theorem not_nan {w : Nat} (h : ¬ Nan w) : Fin w ∨ Inf w := by unfold Fin Inf; unfold Nan at h; omega
theorem Fin.not_nan {w : Nat} (h : Fin w) : ¬ Nan w := by unfold Fin at h; unfold Nan; omega
theorem Inf.not_nan {w : Nat} (h : Inf w) : ¬ Nan w := by unfold Inf at h; unfold Nan; omega

theorem sv_neg (s : Bool) (x : Rat) : sv s (-x) = - sv s x := by unfold sv; split <;> simp
theorem sv_abs (s : Bool) (x : Rat) (h : 0 ≤ x) : (sv s x).abs = x := by
  unfold sv; split
  · rw [Rat.abs_neg, Rat.abs_of_nonneg h]
  · exact Rat.abs_of_nonneg h
theorem ev_fin {w : Nat} (h : Fin w) : - p2 1024 < ev w ∧ ev w < p2 1024 := by
  have := mg_lt h
  rw [mg_inf] at this
  have h0 := mg_nonneg (rg w)
  have := p2_pos 1024
  unfold ev sv; split <;> constructor <;> grind
theorem ev_inf {w : Nat} (h : Inf w) : ev w = sv (sgn w) (p2 1024) := by unfold ev; rw [h, mg_inf]
theorem fin_of_ev {w : Nat} (hn : ¬ Nan w) (h1 : - p2 1024 < ev w) (h2 : ev w < p2 1024) : Fin w := by
  rcases Lk.not_nan hn with h | h
  · exact h
  · rw [ev_inf h] at h1 h2; unfold sv at h1 h2; exfalso; split at h1 <;> grind
theorem ev_rep (w : Nat) : Rep (ev w) := by unfold ev sv; split; exact (mg_rep _).neg; exact mg_rep _
theorem ev_zero_iff {w : Nat} : ev w = 0 ↔ rg w = 0 := by
  unfold ev sv
  constructor
  · intro h
    by_cases h0 : rg w = 0
    · exact h0
    · have := mg_lt (r := 0) (s := rg w) (by omega)
      rw [mg_zero] at this
      exfalso; split at h <;> grind
  · intro h; rw [h, mg_zero]; split <;> simp
theorem ev_neg_sgn {w : Nat} (h : ev w < 0) : sgn w = true := by
  by_cases hs : sgn w = true
  · exact hs
  · have := mg_nonneg (rg w)
    unfold ev sv at h; simp [hs] at h; exfalso; grind
theorem ev_pos_sgn {w : Nat} (h : 0 < ev w) : sgn w = false := by
  by_cases hs : sgn w = true
  · have := mg_nonneg (rg w)
    unfold ev sv at h; simp [hs] at h; exfalso; grind
  · simpa using hs
/-- the same value, not nought: the same word's lower bits -/
theorem ev_inj {v w : Nat} (h : ev v = ev w) (h0 : ev v ≠ 0) : sgn v = sgn w ∧ rg v = rg w := by
  have hs : sgn v = sgn w := by
    by_cases hp : 0 < ev v
    · rw [ev_pos_sgn hp, ev_pos_sgn (h ▸ hp)]
    · have hn : ev v < 0 := by grind
      rw [ev_neg_sgn hn, ev_neg_sgn (h ▸ hn)]
  refine ⟨hs, ?_⟩
  have hm : mg (rg v) = mg (rg w) := by
    unfold ev sv at h; rw [hs] at h; split at h <;> grind
  rcases Nat.lt_trichotomy (rg v) (rg w) with h1 | h1 | h1
  · have := mg_lt h1; exfalso; grind
  · exact h1
  · have := mg_lt h1; exfalso; grind
theorem word_of (w : Nat) (h : w < 2 ^ 64) : w = wd (sgn w) (rg w) := by
  unfold wd sgn rg SGN
  by_cases hc : w < 9223372036854775808
  · have : w / 9223372036854775808 % 2 = 0 := by omega
    simp [this]; omega
  · have : w / 9223372036854775808 % 2 = 1 := by omega
    simp [this]; omega
theorem word_inj {v w : Nat} (hv : v < 2 ^ 64) (hw : w < 2 ^ 64) (h : ev v = ev w) (hs : sgn v = sgn w) : v = w := by
  by_cases h0 : ev v = 0
  · have h1 := ev_zero_iff.1 h0
    have h2 := ev_zero_iff.1 (h ▸ h0)
    rw [word_of v hv, word_of w hw, hs, h1, h2]
  · have := (ev_inj h h0).2
    rw [word_of v hv, word_of w hw, hs, this]

/-! rounding with the ends -/
noncomputable def rc (x : Rat) : Rat := if rnd x < -(p2 1024) then -(p2 1024) else if p2 1024 < rnd x then p2 1024 else rnd x
theorem rc_mono {x y : Rat} (h : x ≤ y) : rc x ≤ rc y := by
  have := rnd_mono h
  have := p2_pos 1024
  unfold rc; (repeat' split) <;> grind
theorem rc_neg (x : Rat) : rc (-x) = - rc x := by
  have := p2_pos 1024
  unfold rc; rw [rnd_neg]; (repeat' split) <;> grind
theorem rc_exact {x : Rat} (h : Rep x) (h1 : -(p2 1024) ≤ x) (h2 : x ≤ p2 1024) : rc x = x := by
  unfold rc; rw [rnd_exact h]; (repeat' split) <;> grind
theorem rc_zero : rc 0 = 0 := rc_exact rep_zero (by have := p2_pos 1024; grind) (by have := p2_pos 1024; grind)
theorem rc_nonneg {x : Rat} (h : 0 ≤ x) : 0 ≤ rc x := by have := rc_mono h; rwa [rc_zero] at this
theorem rc_nonpos {x : Rat} (h : x ≤ 0) : rc x ≤ 0 := by have := rc_mono h; rwa [rc_zero] at this
theorem rc_ev (w : Nat) (h : ¬ Nan w) : rc (ev w) = ev w := by
  have := p2_pos 1024
  rcases not_nan h with h | h
  · have := ev_fin h
    exact rc_exact (ev_rep w) (by grind) (by grind)
  · refine rc_exact (ev_rep w) ?_ ?_ <;> rw [ev_inf h] <;> unfold sv <;> split <;> grind
theorem rc_le {x : Rat} : rc x ≤ p2 1024 ∧ -(p2 1024) ≤ rc x := by
  have := p2_pos 1024
  unfold rc; (repeat' split) <;> grind
theorem rc_small {x : Rat} (h1 : -(p2 1024) < rc x) (h2 : rc x < p2 1024) : rc x = rnd x := by
  unfold rc at *; (repeat' split at *) <;> grind

theorem write_number (neg : Bool) (mag : Nat) (place : Int) : ∃ c, double.write (.number neg mag place) = c ∧ c < 2 ^ 64 ∧ ¬ Nan c ∧ sgn c = neg ∧ ev c = rc (sv neg ((mag : Rat) * p2 place)) := by
  obtain ⟨r, h1, h2, h3⟩ := nearest_spec neg mag place
  refine ⟨wd neg r, ?_, wd_lt neg h1, ?_, sgn_wd neg h1, ?_⟩
  · show double.nearest neg mag place = _
    rw [h2, word_eq]
  · unfold Nan; rw [rg_wd neg h1]; omega
  · rw [ev_wd neg h1, h3]
    have hnn : 0 ≤ rnd ((mag : Rat) * p2 place) := rnd_nonneg (Rat.mul_nonneg Rat.natCast_nonneg (Rat.le_of_lt (p2_pos place)))
    have := p2_pos 1024
    cases neg
    · simp only [sv]; unfold rc; (repeat' split) <;> grind
    · simp only [sv, if_true]; rw [rc_neg]; unfold rc; (repeat' split) <;> grind

/-! the operations, a NaN being one word -/
def qn : Nat := 0x7FF8000000000001
def fadd (x y : Nat) : Nat := (double.add x y).getD qn
def fsub (x y : Nat) : Nat := (double.sub x y).getD qn
def fmul (x y : Nat) : Nat := (double.mul x y).getD qn
def fdiv (x y : Nat) : Nat := (double.div x y).getD qn
theorem nan_qn : Nan qn := by decide +kernel

theorem signed_val (s : Bool) (m up : Nat) (base : Int) : ((signed s m up : Int) : Rat) * p2 base = sv s ((m : Rat) * p2 (base + up)) := by
  unfold signed sv
  rw [p2_add, p2_nat, Nat.shiftLeft_eq]
  cases s
  · simp only [Bool.false_eq_true, if_false]; rw [Rat.intCast_natCast]; push_cast; grind
  · simp only [if_true]; rw [Rat.intCast_neg, Rat.intCast_natCast]; push_cast; grind

theorem sum_spec (s t : Bool) (m n : Nat) (i j : Int) : ∃ c, (Datum.sum (.number s m i) (.number t n j)).map double.write = some c ∧ c < 2 ^ 64 ∧ ¬ Nan c ∧
    ev c = rc (sv s ((m : Rat) * p2 i) + sv t ((n : Rat) * p2 j)) ∧
    sgn c = if sv s ((m : Rat) * p2 i) + sv t ((n : Rat) * p2 j) = 0 then s && t else decide (sv s ((m : Rat) * p2 i) + sv t ((n : Rat) * p2 j) < 0) := by
  simp only [Datum.sum, Option.map_some]
  generalize hb : min i j = base
  have e1 := signed_val s m (i - base).toNat base
  have e2 := signed_val t n (j - base).toNat base
  rw [show base + ((i - base).toNat : Int) = i by omega] at e1
  rw [show base + ((j - base).toNat : Int) = j by omega] at e2
  generalize signed s m (i - base).toNat = S at *
  generalize signed t n (j - base).toNat = T at *
  have hT : ((S + T : Int) : Rat) * p2 base = sv s ((m : Rat) * p2 i) + sv t ((n : Rat) * p2 j) := by
    rw [← e1, ← e2, Rat.intCast_add]; grind
  rw [← hT]
  generalize S + T = total
  have hp := p2_pos base
  obtain ⟨c, h1, h2, h3, h4, h5⟩ := write_number (if total = 0 then s && t else decide (total < 0)) total.natAbs base
  refine ⟨c, by rw [h1], h2, h3, ?_, ?_⟩
  · rw [h5]
    congr 1
    by_cases h0 : total = 0
    · subst h0; simp [sv]
    · by_cases hn : total < 0
      · have : ((total.natAbs : Nat) : Rat) = -(total : Rat) := by
          have : ((total.natAbs : Nat) : Int) = -total := by omega
          rw [← Rat.intCast_natCast, this, Rat.intCast_neg]
        rw [this]; simp only [h0, hn, if_false, decide_true, sv, if_true]; grind
      · have : ((total.natAbs : Nat) : Rat) = (total : Rat) := by
          have : ((total.natAbs : Nat) : Int) = total := by omega
          rw [← Rat.intCast_natCast, this]
        rw [this]; simp [h0, hn, sv]
  · rw [h4]
    have g0 : (total : Rat) * p2 base = 0 ↔ total = 0 := by
      constructor
      · intro h
        have : (total : Rat) * p2 base = ((0 : Int) : Rat) * p2 base := by rw [h]; simp
        exact Rat.intCast_inj.1 (mul_cancel hp this)
      · intro h; subst h; simp
    have g1 : (total : Rat) * p2 base < 0 ↔ total < 0 := by
      rw [Rat.mul_neg_iff_of_pos_right hp]; exact Rat.intCast_neg_iff
    simp only [g0, g1]
end Lk
