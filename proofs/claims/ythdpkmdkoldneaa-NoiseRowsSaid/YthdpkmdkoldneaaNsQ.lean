import Derived.Test.YthdpkmdkoldneaaNsR
import Derived.Test.YthdpkmdkoldneaaFlI
import Derived.Test.YthdpkmdkoldneaaFlT
set_option autoImplicit false
set_option linter.unusedVariables false
namespace Go.Proofs.Ythdpkmdkoldneaa
open Go.RowKit Lk
/-! scaled by powers of two -/
theorem p2_scale (a b : Int) : p2 a * p2 b = p2 (a + b) := (p2_add a b).symm
theorem rnd_scale {y : Rat} {k : Int} (h1 : p2 (-900) ≤ y) (hk : -120 ≤ k) : rnd (y * p2 k) = rnd y * p2 k := by
  have y0 : 0 < y := by have := p2_pos (-900); grind
  have k0 := p2_pos k
  obtain ⟨c, e, h⟩ := rnd_spec (Rat.le_of_lt y0)
  have he : -953 ≤ e := by
    have a : p2 (-900) < p2 (e + 53) := by have := h.high; grind
    have := p2_lt_iff.1 a
    omega
  refine Rnd.eq (k := c) (e := e + k) ⟨by omega, .inr ?_, ?_, ?_, ?_, ?_, ?_, ?_⟩ (Rat.le_of_lt (Rat.mul_pos y0 k0))
  · rcases h.low with h | h
    · omega
    · have := Rat.mul_le_mul_of_nonneg_right h (Rat.le_of_lt k0)
      rw [p2_scale] at this
      rwa [show e + k + 52 = e + 52 + k by omega]
  · have := Rat.mul_lt_mul_of_pos_right h.high k0
    rw [p2_scale] at this
    rwa [show e + k + 53 = e + 53 + k by omega]
  · have := Rat.mul_le_mul_of_nonneg_right h.below (Rat.le_of_lt k0)
    rw [← p2_scale]; grind
  · have := Rat.mul_le_mul_of_nonneg_right h.above (Rat.le_of_lt k0)
    rw [← p2_scale]; grind
  · intro ht
    refine h.tieb (mul_cancel k0 ?_)
    rw [← p2_scale] at ht; grind
  · intro ht
    refine h.tiea (mul_cancel k0 ?_)
    rw [← p2_scale] at ht; grind
  · rw [h.val, ← p2_scale]; grind
theorem rc_pos_rnd {y : Rat} (h0 : 0 ≤ y) (h : y ≤ p2 1022) : rc y = rnd y := by
  have a := rnd_mono h
  rw [rnd_exact (rep_p2 (by decide))] at a
  have b := rnd_nonneg h0
  have c := p2_lt (show (1022 : Int) < 1024 by decide)
  have d := p2_pos 1024
  unfold rc
  rw [if_neg (by grind), if_neg (by grind)]
theorem rc_scale_pos {y : Rat} {k : Int} (h1 : p2 (-900) ≤ y) (h2 : y ≤ p2 900) (hk : -120 ≤ k) (hk2 : k ≤ 120) : rc (y * p2 k) = rc y * p2 k := by
  have y0 : 0 < y := by have := p2_pos (-900); grind
  have k0 := p2_pos k
  have u : y * p2 k ≤ p2 1022 := by
    have a := Rat.mul_le_mul_of_nonneg_right h2 (Rat.le_of_lt k0)
    rw [p2_scale] at a
    exact Rat.le_trans a (p2_le (by omega))
  rw [rc_pos_rnd (Rat.le_of_lt (Rat.mul_pos y0 k0)) u, rc_pos_rnd (Rat.le_of_lt y0) (Rat.le_trans h2 (p2_le (by decide))), rnd_scale h1 hk]
/-- in magnitude from 2^-900 to 2^900, or nought -/
def Fair (y : Rat) : Prop := y = 0 ∨ (p2 (-900) ≤ y ∧ y ≤ p2 900) ∨ (p2 (-900) ≤ -y ∧ -y ≤ p2 900)
theorem rc_scale {y : Rat} {k : Int} (h : Fair y) (hk : -120 ≤ k) (hk2 : k ≤ 120) : rc (y * p2 k) = rc y * p2 k := by
  rcases h with rfl | ⟨a, b⟩ | ⟨a, b⟩
  · rw [Rat.zero_mul, rc_zero, Rat.zero_mul]
  · exact rc_scale_pos a b hk hk2
  · have := rc_scale_pos a b hk hk2
    rw [rc_neg, show -y * p2 k = -(y * p2 k) by grind, rc_neg] at this
    grind
/-- the word of 2^k -/
def pw (k : Int) : Nat := (4607182418800017408 + k * 4503599627370496).toNat
theorem pw_norm {k : Int} (h1 : -120 ≤ k) (h2 : k ≤ 120) : Norm (pw k) ∧ ((pw k : Nat) : Int) = (4607182418800017408 : Nat) + k * 2 ^ 52 := by
  unfold Norm INF pw
  omega
theorem pw_ev {k : Int} (h1 : -120 ≤ k) (h2 : k ≤ 120) : Lk.Fin (pw k) ∧ ev (pw k) = p2 k := by
  obtain ⟨n1, n2⟩ := pw_norm h1 h2
  refine ⟨n1.fin, ?_⟩
  have hr : rg (pw k) = pw k := by unfold rg SGN; unfold pw; omega
  have e1 : ev (pw k) = mg (pw k) := by unfold ev; rw [n1.sgn, hr]; rfl
  have e2 : pw k = ((k - 52) + 1074).toNat * 2 ^ 52 + 2 ^ 52 := by unfold pw; omega
  rw [e1, e2, mg_rung (by omega) (by decide) (.inr (Nat.le_refl _)), ← p2_nat 52]
  show p2 (52 : Int) * p2 (k - 52) = p2 k
  rw [p2_scale]
  congr 1
  omega
/-! what Bell tells -/
theorem less_six {S : Nat} (hS0 : Bd S 12) : Lk.Fin (fsub S 4618441417868443648) ∧ -6 ≤ ev (fsub S 4618441417868443648) ∧ ev (fsub S 4618441417868443648) ≤ 6 ∧ (ev (fsub S 4618441417868443648) = 0 ∨ p2 (-60) ≤ ev (fsub S 4618441417868443648) ∨ p2 (-60) ≤ -ev (fsub S 4618441417868443648)) := by
  obtain ⟨f1, l1, u1⟩ := hS0
  have f6 : Lk.Fin 4618441417868443648 := by decide +kernel
  have e6 : ev 4618441417868443648 = 6 := by decide +kernel
  obtain ⟨_, g2, g3, _⟩ := fsub_fin f1 f6
  have e12 : (((12 : Nat) : Int) : Rat) = 12 := by decide +kernel
  have u1' : ev (S) ≤ 12 := by rw [← e12]; exact u1
  have r6 : rc 6 = 6 := by rw [← e6]; exact rc_ev _ f6.not_nan
  have hg : ev (fsub S 4618441417868443648) = rc (ev (S) - 6) := by rw [g3, e6]
  have lo := rc_mono (show -6 ≤ ev (S) - 6 by grind)
  have hi := rc_mono (show ev (S) - 6 ≤ 6 by grind)
  rw [rc_neg, r6, ← hg] at lo
  rw [r6, ← hg] at hi
  have hp : (6 : Rat) < p2 1024 := by have := p2_lt (show (10 : Int) < 1024 by decide); have : (6 : Rat) < p2 10 := by decide +kernel
                                      grind
  refine ⟨fin_of_ev g2 (by grind) (by grind), lo, hi, ?_⟩
  obtain ⟨m, e, he, hm, hS⟩ := ev_rep (S)
  have p60 : rc (p2 (-60)) = p2 (-60) := rc_exact (rep_p2 (by decide)) (by have := p2_pos (-60); have := p2_pos 1024; grind) (p2_le (by decide))
  have key : ev (S) - 6 = 0 ∨ p2 (-60) ≤ ev (S) - 6 ∨ p2 (-60) ≤ -(ev (S) - 6) := by
    by_cases h4 : ev (S) < 4
    · right; right
      have : p2 (-60) ≤ 1 := by decide +kernel
      grind
    · have he2 : -51 ≤ e := by
        have pe := p2_pos e
        have a : (m : Rat) ≤ ((9007199254740992 : Int) : Rat) := Rat.intCast_le_intCast.2 (by omega)
        have b := Rat.mul_le_mul_of_nonneg_right a (Rat.le_of_lt pe)
        have e53 : ((9007199254740992 : Int) : Rat) = p2 53 := by decide +kernel
        rw [e53, p2_scale] at b
        have c : p2 2 ≤ p2 (53 + e) := by
          have : p2 2 = 4 := by decide +kernel
          grind
        have := p2_le_iff.1 c
        omega
      have e7 : p2 e = ((2 ^ (e + 51).toNat : Nat) : Rat) * p2 (-51) := by
        have e8 : e - ((e + 51).toNat : Int) = -51 := by omega
        have := p2_sub_nat e (e + 51).toNat
        rw [e8] at this
        exact this
      have q51 := p2_pos (-51)
      have one : 6 = ((13510798882111488 : Int) : Rat) * p2 (-51) := by decide +kernel
      have hz : ev (S) - 6 = ((m * (2 ^ (e + 51).toNat : Nat) - 13510798882111488 : Int) : Rat) * p2 (-51) := by
        rw [hS, e7, Rat.intCast_sub, Rat.intCast_mul]
        have : (((2 ^ (e + 51).toNat : Nat) : Int) : Rat) = ((2 ^ (e + 51).toNat : Nat) : Rat) := rfl
        rw [this]
        generalize ((2 ^ (e + 51).toNat : Nat) : Rat) = z
        generalize hq : p2 (-51) = q at *
        grind
      rw [hz]
      generalize m * (2 ^ (e + 51).toNat : Nat) - 13510798882111488 = z
      have l51 : p2 (-60) ≤ p2 (-51) := p2_le (by decide)
      have c1 : ((1 : Int) : Rat) = 1 := rfl
      by_cases z0 : z = 0
      · left; rw [z0]; exact Rat.zero_mul _
      · by_cases zp : 0 < z
        · right; left
          have := Rat.mul_le_mul_of_nonneg_right (Rat.intCast_le_intCast.2 (show (1 : Int) ≤ z by omega)) (Rat.le_of_lt q51)
          grind
        · right; right
          have := Rat.mul_le_mul_of_nonneg_right (Rat.intCast_le_intCast.2 (show (1 : Int) ≤ -z by omega)) (Rat.le_of_lt q51)
          rw [Rat.intCast_neg] at this
          grind
  rw [hg]
  rcases key with k | k | k
  · left; rw [k, rc_zero]
  · right; left; rw [← p60]; exact rc_mono k
  · right; right; rw [← rc_neg, ← p60]; exact rc_mono k
theorem bell_ev (s : Nat) : Lk.Fin (bellF s) ∧ -6 ≤ ev (bellF s) ∧ ev (bellF s) ≤ 6 ∧ (ev (bellF s) = 0 ∨ p2 (-60) ≤ ev (bellF s) ∨ p2 (-60) ≤ -ev (bellF s)) := less_six (sumF_bd s 11 (by decide))
/-- a width that is let in -/
def Wide (x : Nat) : Prop := cge (fabs x) 3110860544497550640 = true ∧ cle (fabs x) 6103021453049119613 = true
theorem wide_ev {x : Nat} (h : Wide x) : Lk.Fin x ∧ ((p2 (-334) ≤ ev x ∧ ev x ≤ p2 334) ∨ (p2 (-334) ≤ -ev x ∧ -ev x ≤ p2 334)) := by
  obtain ⟨h1, h2⟩ := h
  obtain ⟨n1, _, a⟩ := cge_iff.1 h1
  have b := (cle_iff.1 h2).2.2
  have l : p2 (-334) ≤ ev 3110860544497550640 := by decide +kernel
  have u : ev 6103021453049119613 ≤ p2 334 := by decide +kernel
  have p := p2_lt (show (334 : Int) < 1024 by decide)
  rw [ev_fabs] at a b
  have hn : ¬ Nan x := fun k => n1 (nan_fabs.2 k)
  have hc : (ev x).abs = ev x ∨ (ev x).abs = -ev x := by unfold Rat.abs; split <;> simp
  have q := p2_pos (-334)
  rcases hc with hc | hc <;> rw [hc] at a b
  · exact ⟨fin_of_ev hn (by grind) (by grind), .inl ⟨by grind, by grind⟩⟩
  · exact ⟨fin_of_ev hn (by grind) (by grind), .inr ⟨by grind, by grind⟩⟩
theorem fair_of {y : Rat} (h : (p2 (-334) ≤ y ∧ y ≤ p2 334) ∨ (p2 (-334) ≤ -y ∧ -y ≤ p2 334)) : Fair y := by
  have l : p2 (-900) ≤ p2 (-334) := p2_le (by decide)
  have u : p2 334 ≤ p2 900 := p2_le (by decide)
  rcases h with ⟨a, b⟩ | ⟨a, b⟩
  · exact .inr (.inl ⟨by grind, by grind⟩)
  · exact .inr (.inr ⟨by grind, by grind⟩)
theorem fair_mul {x y : Rat} (hx : (p2 (-334) ≤ x ∧ x ≤ p2 334) ∨ (p2 (-334) ≤ -x ∧ -x ≤ p2 334)) (hy1 : -6 ≤ y) (hy2 : y ≤ 6) (hy : y = 0 ∨ p2 (-60) ≤ y ∨ p2 (-60) ≤ -y) : Fair (y * x) := by
  have key : ∀ {x y : Rat}, p2 (-334) ≤ x → x ≤ p2 334 → p2 (-60) ≤ y → y ≤ 6 → p2 (-900) ≤ y * x ∧ y * x ≤ p2 900 := by
    intro x y a b c d
    have x0 := p2_pos (-334)
    have y0 := p2_pos (-60)
    have e1 := Rat.mul_le_mul_of_nonneg_left a (Rat.le_of_lt y0)
    have e2 := Rat.mul_le_mul_of_nonneg_right c (show 0 ≤ x by grind)
    have e3 := Rat.mul_le_mul_of_nonneg_left b (show (0 : Rat) ≤ 6 by decide)
    have e4 := Rat.mul_le_mul_of_nonneg_right d (show 0 ≤ x by grind)
    rw [p2_scale] at e1
    have l : p2 (-900) ≤ p2 (-60 + -334) := p2_le (by decide)
    have u : 6 * p2 334 ≤ p2 900 := by decide +kernel
    exact ⟨by grind, by grind⟩
  rcases hy with rfl | c | c
  · left; exact Rat.zero_mul _
  · rcases hx with ⟨a, b⟩ | ⟨a, b⟩
    · exact .inr (.inl (key a b c hy2))
    · have := key a b c hy2
      rw [show y * -x = -(y * x) by grind] at this
      exact .inr (.inr this)
  · rcases hx with ⟨a, b⟩ | ⟨a, b⟩
    · have := key a b c (by grind)
      rw [show -y * x = -(y * x) by grind] at this
      exact .inr (.inr this)
    · have := key a b c (by grind)
      rw [show -y * -x = y * x by grind] at this
      exact .inr (.inl this)
theorem fin_lt_1000 {w : Nat} {y : Rat} (hn : ¬ Nan w) (he : ev w = y) (h : Fair y) {k : Int} {z : Rat} (hz : y = z) : Lk.Fin w := by
  have u : p2 900 < p2 1024 := p2_lt (by decide)
  have p := p2_pos 1024
  rcases h with h | ⟨a, b⟩ | ⟨a, b⟩
  · exact fin_of_ev hn (by grind) (by grind)
  · have := p2_pos (-900); exact fin_of_ev hn (by grind) (by grind)
  · have := p2_pos (-900); exact fin_of_ev hn (by grind) (by grind)
/-- A WIDTH TIMES A POWER OF TWO -/
theorem scaled {B x : Nat} {k : Int} (hB : Lk.Fin B) (b1 : -6 ≤ ev B) (b2 : ev B ≤ 6) (b3 : ev B = 0 ∨ p2 (-60) ≤ ev B ∨ p2 (-60) ≤ -ev B) (hx : Wide x) (h1 : -100 ≤ k) (h2 : k ≤ 100) :
    ceq (fmul B (fmul x (pw k))) (fmul (fmul B x) (pw k)) = true ∧ Lk.Fin (fmul x (pw k)) ∧ ¬ Nan (fmul B (fmul x (pw k))) ∧ ¬ Nan (fmul B x) ∧ ¬ Nan (fmul (fmul B x) (pw k)) := by
  obtain ⟨fx, rx⟩ := wide_ev hx
  obtain ⟨fk, ek⟩ := pw_ev (k := k) (by omega) (by omega)
  have fr := fair_of rx
  obtain ⟨_, g2, g3, _⟩ := fmul_fin fx fk
  rw [ek, rc_scale fr (by omega) (by omega), rc_ev x fx.not_nan] at g3
  have k0 := p2_pos k
  have hi : p2 k ≤ p2 100 := p2_le h2
  have fg : Lk.Fin (fmul x (pw k)) := by
    have p : p2 334 * p2 100 < p2 1024 := by rw [p2_scale]; exact p2_lt (by decide)
    have q := p2_pos (-334)
    rcases rx with ⟨a, b⟩ | ⟨a, b⟩
    · have e1 := Rat.mul_le_mul_of_nonneg_right b (Rat.le_of_lt k0)
      have e2 := Rat.mul_le_mul_of_nonneg_left hi (Rat.le_of_lt (p2_pos 334))
      have e3 := Rat.mul_pos (show 0 < ev x by grind) k0
      exact fin_of_ev g2 (by grind) (by grind)
    · have e1 := Rat.mul_le_mul_of_nonneg_right b (Rat.le_of_lt k0)
      have e2 := Rat.mul_le_mul_of_nonneg_left hi (Rat.le_of_lt (p2_pos 334))
      have e3 := Rat.mul_pos (show 0 < -ev x by grind) k0
      exact fin_of_ev g2 (by grind) (by grind)
  obtain ⟨_, q2, q3, _⟩ := fmul_fin hB fg
  obtain ⟨_, p2', p3, _⟩ := fmul_fin hB fx
  have fb := fair_mul rx b1 b2 b3
  have fp : Lk.Fin (fmul B x) := by
    have h0 : rc (p2 900) = p2 900 := rc_exact (rep_p2 (by decide)) (by have := p2_pos 900; have := p2_pos 1024; grind) (p2_le (by decide))
    have u : p2 900 < p2 1024 := p2_lt (by decide)
    have n9 := p2_pos (-900)
    have n10 := p2_pos 900
    have up : ev B * ev x ≤ p2 900 ∧ -(p2 900) ≤ ev B * ev x := by rcases fb with h | ⟨a, b⟩ | ⟨a, b⟩ <;> constructor <;> grind
    have a := rc_mono up.1
    have b := rc_mono up.2
    rw [h0, ← p3] at a
    rw [rc_neg, h0, ← p3] at b
    exact fin_of_ev p2' (by grind) (by grind)
  obtain ⟨_, r2, r3, _⟩ := fmul_fin fp fk
  have fr2 : Fair (ev (fmul B x)) := by
    have h0 : rc (p2 900) = p2 900 := rc_exact (rep_p2 (by decide)) (by have := p2_pos 900; have := p2_pos 1024; grind) (p2_le (by decide))
    have h1 : rc (p2 (-900)) = p2 (-900) := rc_exact (rep_p2 (by decide)) (by have := p2_pos (-900); have := p2_pos 1024; grind) (p2_le (by decide))
    rw [p3]
    rcases fb with h | ⟨a, b⟩ | ⟨a, b⟩
    · left; rw [h, rc_zero]
    · right; left; rw [← h0, ← h1]; exact ⟨rc_mono a, rc_mono b⟩
    · right; right; rw [← rc_neg, ← h0, ← h1]; exact ⟨rc_mono a, rc_mono b⟩
  refine ⟨ceq_iff.2 ⟨q2, r2, ?_⟩, fg, q2, p2', r2⟩
  rw [q3, r3, ek, g3, rc_scale fr2 (by omega) (by omega), rc_ev _ p2', p3, ← Rat.mul_assoc, rc_scale fb (by omega) (by omega)]
theorem mg_shift {x y : Nat} (hx : Norm x) (hy : Norm y) (h : (x : Int) = y + 53 * 2 ^ 52) : mg x = mg y * p2 53 := by
  unfold Norm INF at hx hy
  have e1 : x = (((x / 2 ^ 52 : Nat) : Int) - 1075 + 1074).toNat * 2 ^ 52 + (2 ^ 52 + x % 2 ^ 52) := by omega
  have e2 : y = (((x / 2 ^ 52 : Nat) : Int) - 1128 + 1074).toNat * 2 ^ 52 + (2 ^ 52 + x % 2 ^ 52) := by omega
  have r1 : mg x = ((2 ^ 52 + x % 2 ^ 52 : Nat) : Rat) * p2 (((x / 2 ^ 52 : Nat) : Int) - 1075) := by
    have := mg_rung (e := ((x / 2 ^ 52 : Nat) : Int) - 1075) (k := 2 ^ 52 + x % 2 ^ 52) (by omega) (by omega) (.inr (by omega))
    rwa [← e1] at this
  have r2 : mg y = ((2 ^ 52 + x % 2 ^ 52 : Nat) : Rat) * p2 (((x / 2 ^ 52 : Nat) : Int) - 1128) := by
    have := mg_rung (e := ((x / 2 ^ 52 : Nat) : Int) - 1128) (k := 2 ^ 52 + x % 2 ^ 52) (by omega) (by omega) (.inr (by omega))
    rwa [← e2] at this
  rw [r1, r2, Rat.mul_assoc, p2_scale]
  congr 2
  omega
theorem norm_ev {x : Nat} (h : Norm x) : ev x = mg x := by
  have hr : rg x = x := by unfold Norm INF at h; unfold rg SGN; omega
  unfold ev; rw [h.sgn, hr]; rfl
/-- what Float tells -/
theorem fl_tells (s : Nat) : cge (fl1 s) 0 = true ∧ clt (fl1 s) 4607182418800017408 = true ∧ ¬ Nan (fmul (fl1 s) 4845873199050653696) ∧ ceq (fmul (fl1 s) 4845873199050653696) (flr (fmul (fl1 s) 4845873199050653696)) = true := by
  have hm : mix (nx s) / 2048 < 2 ^ 53 := by have := mix_lt (nx s); omega
  unfold fl1
  generalize mix (nx s) / 2048 = m at *
  have main : Lk.Fin (flt m) ∧ 0 ≤ ev (flt m) ∧ ev (flt m) < 1 ∧ ev (flt m) * p2 53 = ((m : Int) : Rat) := by
    by_cases h0 : m = 0
    · subst h0
      have z : flt 0 = 0 := rfl
      rw [z]
      exact ⟨by decide +kernel, by decide +kernel, by decide +kernel, by decide +kernel⟩
    · obtain ⟨n1, n2, n3, n4⟩ := flt_norm h0 hm
      have o1 : ev 4607182418800017408 = 1 := by kernel_rfl
      have l := (ev_nat_lt n3 (show Norm 4607182418800017408 by unfold Norm INF; omega)).2 n4
      rw [o1] at l
      refine ⟨n3.fin, ev_nonneg_of_sgn n3.sgn, l, ?_⟩
      obtain ⟨⟨_, ve⟩, _⟩ := V.ofInt (n := (m : Int)) (by omega)
      rw [norm_ev n3, ← mg_shift n1 n3 (by omega), ← norm_ev n1, ve]
  obtain ⟨f1, l1, u1, e1⟩ := main
  have fW : Lk.Fin 4845873199050653696 := by decide +kernel
  have eW : ev 4845873199050653696 = p2 53 := by decide +kernel
  obtain ⟨_, g2, g3, _⟩ := fmul_fin f1 fW
  rw [eW, e1] at g3
  have hV : V (fmul (flt m) 4845873199050653696) (m : Int) := V.of (by omega) g2 g3
  have m0 : (0 : Rat) ≤ ((m : Int) : Rat) := by exact_mod_cast (show (0 : Int) ≤ m by omega)
  obtain ⟨z, z1, z2, _, _, z3, _⟩ := flr_spec hV.1 (by rw [hV.2]; exact m0)
  rw [hV.2] at z1 z2
  have hz : (z : Int) = m := by
    have e0 : ((1 : Int) : Rat) = 1 := rfl
    have e2 : ((z : Int) : Rat) = (z : Rat) := rfl
    have k1 : ((z : Int) : Rat) < (((m : Int) + 1 : Int) : Rat) := by rw [Rat.intCast_add]; grind
    have k2 : ((m : Int) : Rat) < ((z + 1 : Int) : Rat) := by rw [Rat.intCast_add]; grind
    have k1 := Rat.intCast_lt_intCast.1 k1
    have k2 := Rat.intCast_lt_intCast.1 k2
    omega
  have hF := z3 (by omega)
  rw [hz] at hF
  have z0 : ev 0 = 0 := by kernel_rfl
  have o1 : ev 4607182418800017408 = 1 := by kernel_rfl
  exact ⟨cge_iff.2 ⟨f1.not_nan, by decide +kernel, by rw [z0]; exact l1⟩, clt_iff.2 ⟨f1.not_nan, by decide +kernel, by rw [o1]; exact u1⟩, g2, by rw [hV.ceq hF]; simp⟩
theorem bell_tells (s : Nat) : cge (bellF s) 13841813454723219456 = true ∧ cle (bellF s) 4618441417868443648 = true := by
  obtain ⟨f, l, u, _⟩ := bell_ev s
  have e1 : ev 13841813454723219456 = -6 := by decide +kernel
  have e2 : ev 4618441417868443648 = 6 := by decide +kernel
  exact ⟨cge_iff.2 ⟨f.not_nan, by decide +kernel, by rw [e1]; exact l⟩, cle_iff.2 ⟨f.not_nan, by decide +kernel, by rw [e2]; exact u⟩⟩
theorem row_pair {s wd j n : Nat} : pr1 (skp (skp s (24 * n)) (24 * j)) wd = pr1 (skp s (24 * (n + j))) wd ∧ pr2 (skp (skp s (24 * n)) (24 * j)) wd = pr2 (skp s (24 * (n + j))) wd := by
  rw [skp_skp, show 24 * n + 24 * j = 24 * (n + j) by omega]; exact ⟨rfl, rfl⟩
theorem pr_nn {s wd : Nat} (h : Lk.Fin wd) : ¬ Nan (pr1 s wd) ∧ ¬ Nan (pr2 s wd) :=
  ⟨(fmul_fin (bell_ev s).1 h).2.1, (fmul_fin (bell_ev (skp s 12)).1 h).2.1⟩
end Go.Proofs.Ythdpkmdkoldneaa
