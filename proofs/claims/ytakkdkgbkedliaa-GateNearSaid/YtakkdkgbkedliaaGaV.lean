import Derived.Test.YtakkdkgbkedliaaGaK
set_option autoImplicit false
set_option linter.unusedVariables false
namespace Go.Proofs.Ytakkdkgbkedliaa
open Go.RowKit Lk
/-! the bin of a bin's speed -/
def Bt (x l u : Rat) : Prop := l ≤ x ∧ x ≤ u
theorem le_div {x a b : Rat} (hb : 0 < b) (h : x * b ≤ a) : x ≤ a / b := by
  apply Decidable.byContradiction
  intro hc
  have := (Rat.div_lt_iff (a := a) (b := b) (c := x) hb).1 (by grind)
  grind
theorem div_le {x a b : Rat} (hb : 0 < b) (h : a ≤ x * b) : a / b ≤ x := by
  apply Decidable.byContradiction
  intro hc
  have := (Rat.lt_div_iff (a := x) (b := a) (c := b) hb).1 (by grind)
  grind
theorem Bt.mul {x y l u l' u' : Rat} (h : Bt x l u) (k : Bt y l' u') (hl : 0 ≤ l) (hl' : 0 ≤ l') : Bt (x * y) (l * l') (u * u') := by
  obtain ⟨a, b⟩ := h
  obtain ⟨c, d⟩ := k
  have e1 := Rat.mul_le_mul_of_nonneg_right a hl'
  have e2 := Rat.mul_le_mul_of_nonneg_left c (show 0 ≤ x by grind)
  have e3 := Rat.mul_le_mul_of_nonneg_right b (show 0 ≤ y by grind)
  have e4 := Rat.mul_le_mul_of_nonneg_left d (show 0 ≤ u by grind)
  exact ⟨Rat.le_trans e1 e2, Rat.le_trans e3 e4⟩
theorem Bt.div {x y l u l' u' : Rat} (h : Bt x l u) (k : Bt y l' u') (hl : 0 ≤ l) (hl' : 0 < l') : Bt (x / y) (l / u') (u / l') := by
  obtain ⟨a, b⟩ := h
  obtain ⟨c, d⟩ := k
  have y0 : 0 < y := by grind
  have u0 : 0 < u' := by grind
  have xu : 0 ≤ u := by grind
  constructor
  · refine le_div y0 ?_
    have e1 : l / u' * y ≤ l / u' * u' := Rat.mul_le_mul_of_nonneg_left d (le_div u0 (by rw [Rat.zero_mul]; exact hl))
    rw [Rat.div_mul_cancel (by grind)] at e1
    grind
  · refine div_le y0 ?_
    have e1 : u / l' * l' ≤ u / l' * y := Rat.mul_le_mul_of_nonneg_left c (le_div hl' (by rw [Rat.zero_mul]; exact xu))
    rw [Rat.div_mul_cancel (by grind)] at e1
    grind
theorem Bt.rg {x l u : Rat} (h : Bt x l u) (hl : 1 / 10 ^ 40 ≤ l) (hu : u ≤ 10 ^ 40) : Rg x := ⟨Rat.le_trans hl h.1, Rat.le_trans h.2 hu⟩
/-- from a thousandth to a thousand millions -/
def Lim (x : Nat) : Prop := cge x 4562254508917369340 = true ∧ cle x 4741671816366391296 = true
theorem lim_bt {x : Nat} (h : Lim x) : Bt (ev x) (1 / 1024) (10 ^ 9) := by
  obtain ⟨h1, h2⟩ := h
  have a := (cge_iff.1 h1).2.2
  have b := (cle_iff.1 h2).2.2
  have l : 1 / 1024 ≤ ev 4562254508917369340 := by decide +kernel
  have u : ev 4741671816366391296 ≤ 10 ^ 9 := by decide +kernel
  exact ⟨Rat.le_trans l a, Rat.le_trans b u⟩
theorem wv_still {q : Rat} (h1 : -(1 / 2) ≤ q) (h2 : q < 1 / 2) : wv q = q := by
  unfold wv; rw [if_neg (by grind), if_neg (by grind)]
theorem trc_small {z : Nat} (hf : Lk.Fin z) (h1 : -(1 / 2) < ev z) (h2 : ev z < 1 / 2) : ev (trc z) = 0 := by
  obtain ⟨y, _, _, _, t1, t2, t3, _⟩ := trc_word hf
  have hm : mg (rg z) < 1 := by
    have e : ev z = sv (sgn z) (mg (rg z)) := rfl
    cases hs : sgn z <;> rw [hs] at e <;> simp only [sv, if_true, if_false, Bool.false_eq_true] at e <;> grind
  have hy : y = 0 := by
    have : ((y : Int) : Rat) < ((1 : Int) : Rat) := by
      have e1 : ((1 : Int) : Rat) = 1 := rfl
      have e2 : ((y : Int) : Rat) = (y : Rat) := rfl
      grind
    have := Rat.intCast_lt_intCast.1 this
    omega
  rw [t1, hy]
  have : sv (sgn z) ((0 : Nat) : Rat) = 0 := by cases sgn z <;> rfl
  rw [this, rc_zero]
theorem wrp_small {z : Nat} (hf : Lk.Fin z) (hl : z < 2 ^ 64) (h1 : -(1 / 2) < ev z) (h2 : ev z < 1 / 2) : Lk.Fin (wrp z) ∧ ev (wrp z) = ev z := by
  refine ⟨wrp_fin hf hl, ?_⟩
  obtain ⟨ft, _⟩ := trc_between hf
  have ed : ev (fsub z (trc z)) = ev z := by
    rw [(fsub_fin hf ft).2.2.1, trc_small hf h1 h2, show ev z - 0 = ev z by grind, rc_ev z hf.not_nan]
  rw [ev_wrp hf hl, ed, wv_still (by grind) h2]
theorem sg_one : Sg 1 := .inl rfl
theorem sg_neg {s : Rat} (h : Sg s) : Sg (-s) := by unfold Sg at *; grind
theorem half_end {m p q r : Rat} (h1 : m ≤ p) (h2 : p ≤ q) (h3 : q ≤ r) (h4 : r < 1 / 2) : m < 1 / 2 := by grind
theorem tgt_eq {a n V e r : Rat} (h1 : n ≠ 0) (h2 : V ≠ 0) (h3 : e ≠ 0) (h4 : r ≠ 0) : 2 * (a / n * V / (2 * (e / r))) / V * (e / r) = a / n := by grind
/-- the chain: how far it leads, for a bin that is a at sign s -/
theorem chain {v r K : Nat} {e n : Int} {s a : Rat} (hs : Sg s) (hv : Lim v) (hr : Lim r) (fv : Lk.Fin v) (fr : Lk.Fin r) (e1 : 1 ≤ e) (e2 : e ≤ 16384) (n1 : 1 ≤ n) (n2 : n ≤ 256) (hK : Lk.Fin K) (eK : ev K = s * a) (a1 : 1 ≤ a) (a2 : 2 * a + 1 ≤ (n : Rat)) :
    Lk.Fin (spF v r e n K) ∧ Lk.Fin (biT v r e (spF v r e n K)) ∧ Lk.Fin (biF v r e n (spF v r e n K)) ∧ ∃ m, ev (biF v r e n (spF v r e n K)) = s * m ∧ Sw m a 10 := by
  have bv := lim_bt hv
  have br := lim_bt hr
  have v0 : 0 < ev v := by have := bv.1; grind
  have r0 : 0 < ev r := by have := br.1; grind
  obtain ⟨⟨ef, ee⟩, _⟩ := V.ofInt (n := e) (by omega)
  obtain ⟨⟨nf, ne⟩, _⟩ := V.ofInt (n := n) (by omega)
  have c1 : ((1 : Int) : Rat) = 1 := rfl
  have be : Bt (e : Rat) 1 16384 := ⟨by have := Rat.intCast_le_intCast.2 e1; rwa [c1] at this, Rat.intCast_le_intCast.2 e2⟩
  have bn : Bt (n : Rat) 1 256 := ⟨by have := Rat.intCast_le_intCast.2 n1; rwa [c1] at this, Rat.intCast_le_intCast.2 n2⟩
  have pK : Pw s K a 0 := pw_exact hK eK (by grind)
  have pN : Pw 1 (floatOfInt .f64 n) n 0 := pw_exact nf (by rw [ne, Rat.one_mul]) (by have := bn.1; grind)
  have pE : Pw 1 (floatOfInt .f64 e) e 0 := pw_exact ef (by rw [ee, Rat.one_mul]) (by have := be.1; grind)
  have pV : Pw 1 v (ev v) 0 := pw_exact fv (by rw [Rat.one_mul]) v0
  have pR : Pw 1 r (ev r) 0 := pw_exact fr (by rw [Rat.one_mul]) r0
  have p2' : Pw 1 4611686018427387904 2 0 := pw_exact V.two.1 (by rw [V.two.2]; decide +kernel) (by decide)
  have n0 : (0 : Rat) < n := by have := bn.1; grind
  have e0 : (0 : Rat) < e := by have := be.1; grind
  have hn2 := bn.2
  have bα : Bt (a / n) (1 / 256) (1 / 2) := ⟨le_div n0 (by grind), div_le n0 (by grind)⟩
  have bβ := be.div br (by decide +kernel) (by decide +kernel)
  have α0 : 0 < a / n := by have := bα.1; grind
  have β0 : 0 < (e : Rat) / ev r := by have := bβ.1; have : (0 : Rat) < 1 / 10 ^ 9 := by decide +kernel
                                       grind
  have b3 := bα.mul bv (by decide +kernel) (by decide +kernel)
  have t0 : Bt (2 : Rat) 2 2 := ⟨Rat.le_refl, Rat.le_refl⟩
  have b4 := t0.mul bβ (by decide +kernel) (by decide +kernel)
  have b5 := b3.div b4 (by decide +kernel) (by decide +kernel)
  have b6 := t0.mul b5 (by decide +kernel) (by decide +kernel)
  have b7 := b6.div bv (by decide +kernel) (by decide +kernel)
  have b8 := b7.mul bβ (by decide +kernel) (by decide +kernel)
  have q3 : 0 < a / n * ev v := Rat.mul_pos α0 v0
  have q4 : 0 < 2 * ((e : Rat) / ev r) := by grind
  have q5 : 0 < a / n * ev v / (2 * ((e : Rat) / ev r)) := by
    rw [Rat.div_def]; exact Rat.mul_pos q3 (Rat.inv_pos.2 q4)
  have q6 : 0 < 2 * (a / n * ev v / (2 * ((e : Rat) / ev r))) := by grind
  have q7 : 0 < 2 * (a / n * ev v / (2 * ((e : Rat) / ev r))) / ev v := by
    rw [Rat.div_def]; exact Rat.mul_pos q6 (Rat.inv_pos.2 v0)
  have w1 := pK.div pN hs sg_one (by grind) n0 (by decide) (bα.rg (by decide +kernel) (by decide +kernel))
  rw [Rat.mul_one] at w1
  have w2 := w1.mul pV hs sg_one α0 v0 (by decide) (b3.rg (by decide +kernel) (by decide +kernel))
  rw [Rat.mul_one] at w2
  have w3 := pE.div pR sg_one sg_one e0 r0 (by decide) (bβ.rg (by decide +kernel) (by decide +kernel))
  rw [Rat.mul_one] at w3
  have w4 := p2'.mul w3 sg_one sg_one (by decide) β0 (by decide) (b4.rg (by decide +kernel) (by decide +kernel))
  rw [Rat.mul_one] at w4
  have w5 := (w2.div w4 hs sg_one q3 q4 (by decide) (b5.rg (by decide +kernel) (by decide +kernel))).neg
  rw [Rat.mul_one] at w5
  have w6 := p2'.mul w5 sg_one (sg_neg hs) (by decide) q5 (by decide) (b6.rg (by decide +kernel) (by decide +kernel))
  rw [Rat.one_mul] at w6
  have w7 := w6.div pV (sg_neg hs) sg_one q6 v0 (by decide) (b7.rg (by decide +kernel) (by decide +kernel))
  rw [Rat.mul_one] at w7
  have w8 := w7.mul w3 (sg_neg hs) sg_one q7 β0 (by decide) (b8.rg (by decide +kernel) (by decide +kernel))
  rw [Rat.mul_one] at w8
  have tgt := tgt_eq (a := a) (n := (n : Rat)) (V := ev v) (e := (e : Rat)) (r := ev r) (by grind) (by grind) (by grind) (by grind)
  rw [tgt] at w8
  have w9 := w8.neg
  rw [show - - s = s by grind] at w9
  have hT : Lk.Fin (biT v r e (spF v r e n K)) := w8.1
  have hl := biT_lt hT
  have w9' := w9
  obtain ⟨fz, m, em, m0, sm⟩ := w9
  have hm : m < 1 / 2 := by
    have h9 : R ^ 9 ≤ 1 + 1 / 1000 := by decide +kernel
    have h1 : m ≤ a / n * R ^ 9 := sm.1
    have hα : a / n ≤ 1 / 2 - 1 / 512 := div_le n0 (by grind)
    have e3 := Rat.mul_le_mul_of_nonneg_left h9 (Rat.le_of_lt α0)
    have e4 : (1 / 2 - 1 / 512 : Rat) * (1 + 1 / 1000) < 1 / 2 := by decide +kernel
    have e5 : a / n * (1 + 1 / 1000) ≤ (1 / 2 - 1 / 512 : Rat) * (1 + 1 / 1000) := Rat.mul_le_mul_of_nonneg_right hα (by decide +kernel)
    exact half_end h1 e3 e5 e4
  have hz1 : -(1 / 2) < ev (fneg (biT v r e (spF v r e n K))) ∧ ev (fneg (biT v r e (spF v r e n K))) < 1 / 2 := by
    have em' : ev (fneg (biT v r e (spF v r e n K))) = s * m := em
    rw [em']
    rcases hs with rfl | rfl <;> constructor <;> grind
  obtain ⟨fw, ew⟩ := wrp_small (fin_fneg.2 hT) (fneg_lt' _) hz1.1 hz1.2
  have w10 : Pw s (wrp (fneg (biT v r e (spF v r e n K)))) (a / n) 9 := ⟨fw, m, ew.trans em, m0, sm⟩
  have b9 := bα.mul bn (by decide +kernel) (by decide +kernel)
  have w11 := w10.mul pN hs sg_one α0 n0 (by decide) (b9.rg (by decide +kernel) (by decide +kernel))
  rw [Rat.mul_one, Rat.div_mul_cancel (by grind)] at w11
  obtain ⟨fx, m2, ex, _, sx⟩ := w11
  exact ⟨w5.1, hT, fx, m2, ex, sx⟩
/-- near: within 1e-9 -/
theorem near_end {X K : Nat} {s a m : Rat} (hs : Sg s) (fX : Lk.Fin X) (fK : Lk.Fin K) (eX : ev X = s * m) (eK : ev K = s * a) (h : Sw m a 10) (a0 : 0 ≤ a) (a1 : a ≤ 128) : cle (fabs (fsub X K)) 4472406533629990549 = true := by
  have h10 : R ^ 10 ≤ 1 + 1 / 1000000000000000 * 2 := by decide +kernel
  obtain ⟨h1, h2⟩ := h
  have m0 : 0 ≤ m := (by apply Decidable.byContradiction; intro hc; have := Rat.mul_lt_mul_of_pos_right (show m < 0 by grind) (Rk_pos 10); grind)
  have e1 := Rat.mul_le_mul_of_nonneg_left h10 a0
  have e2 := Rat.mul_le_mul_of_nonneg_left h10 m0
  have d1 : m - a ≤ 1 / 1000000000000 := by grind
  have d2 : a - m ≤ 1 / 1000000000000 := by grind
  obtain ⟨_, g2, g3, _⟩ := fsub_fin fX fK
  have t0 : ev 4472406533629990549 ≥ 1 / 1000000000000 := by decide +kernel
  have tn : ¬ Nan 4472406533629990549 := by decide +kernel
  refine cle_iff.2 ⟨fun k => g2 (nan_fabs.1 k), tn, ?_⟩
  rw [ev_fabs, g3, eX, eK]
  have l : -(ev 4472406533629990549) ≤ s * m - s * a ∧ s * m - s * a ≤ ev 4472406533629990549 := by
    rcases hs with rfl | rfl <;> constructor <;> grind
  have a := rc_mono l.1
  have b := rc_mono l.2
  rw [rc_neg, rc_ev _ tn] at a
  rw [rc_ev _ tn] at b
  unfold Rat.abs
  split <;> grind
/-- .. and at nought -/
theorem chain0 {v r : Nat} {e n : Int} (hv : okf v = true) (hr : okf r = true) (hlr : Lim r) (e1 : 1 ≤ e) (e2 : e ≤ 16384) (n1 : 1 ≤ n) (n2 : n ≤ 256) :
    Lk.Fin (spF v r e n 0) ∧ Lk.Fin (biT v r e (spF v r e n 0)) ∧ Lk.Fin (biF v r e n (spF v r e n 0)) ∧ ev (biF v r e n (spF v r e n 0)) = 0 := by
  obtain ⟨vf, vne⟩ := okf_pos hv
  obtain ⟨rf, rne⟩ := okf_pos hr
  have br := lim_bt hlr
  have r0 : 0 < ev r := okf_gt hr
  obtain ⟨⟨ef, ee⟩, _⟩ := V.ofInt (n := e) (by omega)
  obtain ⟨⟨nf, ne⟩, _⟩ := V.ofInt (n := n) (by omega)
  have c1 : ((1 : Int) : Rat) = 1 := rfl
  have be : Bt (e : Rat) 1 16384 := ⟨by have := Rat.intCast_le_intCast.2 e1; rwa [c1] at this, Rat.intCast_le_intCast.2 e2⟩
  have e0 : (0 : Rat) < e := by have := be.1; grind
  have n0 : ev (floatOfInt .f64 n) ≠ 0 := by rw [ne]; have := Rat.intCast_le_intCast.2 n1; rw [c1] at this; grind
  have pE : Pw 1 (floatOfInt .f64 e) e 0 := pw_exact ef (by rw [ee, Rat.one_mul]) e0
  have pR : Pw 1 r (ev r) 0 := pw_exact rf (by rw [Rat.one_mul]) r0
  have bβ := be.div br (by decide +kernel) (by decide +kernel)
  have β0 : 0 < (e : Rat) / ev r := by rw [Rat.div_def]; exact Rat.mul_pos e0 (Rat.inv_pos.2 r0)
  have w3 := pE.div pR sg_one sg_one e0 r0 (by decide) (bβ.rg (by decide +kernel) (by decide +kernel))
  have t0 : Bt (2 : Rat) 2 2 := ⟨Rat.le_refl, Rat.le_refl⟩
  have b4 := t0.mul bβ (by decide +kernel) (by decide +kernel)
  have p2' : Pw 1 4611686018427387904 2 0 := pw_exact V.two.1 (by rw [V.two.2]; decide +kernel) (by decide)
  have w4 := p2'.mul w3 sg_one (by rw [Rat.mul_one]; exact sg_one) (by decide) β0 (by decide) (b4.rg (by decide +kernel) (by decide +kernel))
  have fsec : Lk.Fin (sec e r) := w3.1
  obtain ⟨ftwo, m, em, m0, _⟩ := w4
  have ntwo : ev (fmul 4611686018427387904 (sec e r)) ≠ 0 := by
    have : ev (fmul 4611686018427387904 (sec e r)) = 1 * (1 * 1) * m := em
    rw [this]; grind
  have zd : ∀ {a b : Nat}, Lk.Fin a → ev a = 0 → Lk.Fin b → ev b ≠ 0 → Lk.Fin (fdiv a b) ∧ ev (fdiv a b) = 0 := by
    intro a b fa ea fb hb
    obtain ⟨_, g2, g3, _⟩ := fdiv_fin fa fb hb
    rw [ea, Rat.div_def, Rat.zero_mul, rc_zero] at g3
    exact ⟨fin_of_ev g2 (by have := p2_pos 1024; grind) (by have := p2_pos 1024; grind), g3⟩
  have zm : ∀ {a b : Nat}, Lk.Fin a → ev a = 0 → Lk.Fin b → Lk.Fin (fmul a b) ∧ ev (fmul a b) = 0 := by
    intro a b fa ea fb
    obtain ⟨_, g2, g3, _⟩ := fmul_fin fa fb
    rw [ea, Rat.zero_mul, rc_zero] at g3
    exact ⟨fin_of_ev g2 (by have := p2_pos 1024; grind) (by have := p2_pos 1024; grind), g3⟩
  obtain ⟨a1, b1⟩ := zd (show Lk.Fin 0 by decide +kernel) (by kernel_rfl) nf n0
  obtain ⟨a2, b2⟩ := zm a1 b1 vf
  obtain ⟨a3, b3⟩ := zd a2 b2 ftwo ntwo
  have a4 : Lk.Fin (spF v r e n 0) := fin_fneg.2 a3
  have b4 : ev (spF v r e n 0) = 0 := by unfold spF; rw [ev_fneg]; show -(ev (fdiv (fmul (fdiv 0 (floatOfInt .f64 n)) v) (fmul 4611686018427387904 (fdiv (floatOfInt .f64 e) r)))) = 0; rw [b3]; rfl
  have a5 : Lk.Fin (fmul 4611686018427387904 (spF v r e n 0)) ∧ ev (fmul 4611686018427387904 (spF v r e n 0)) = 0 := by
    obtain ⟨_, g2, g3, _⟩ := fmul_fin V.two.1 a4
    rw [b4, Rat.mul_zero, rc_zero] at g3
    exact ⟨fin_of_ev g2 (by have := p2_pos 1024; grind) (by have := p2_pos 1024; grind), g3⟩
  obtain ⟨a6, b6⟩ := zd a5.1 a5.2 vf vne
  obtain ⟨a7, b7⟩ := zm a6 b6 fsec
  have hz : ev (fneg (biT v r e (spF v r e n 0))) = 0 := by unfold biT; rw [ev_fneg, b7]; rfl
  have a7' : Lk.Fin (biT v r e (spF v r e n 0)) := a7
  obtain ⟨fw, ew⟩ := wrp_small (fin_fneg.2 a7') (fneg_lt' _) (by rw [hz]; decide +kernel) (by rw [hz]; decide +kernel)
  obtain ⟨a8, b8⟩ := zm fw (ew.trans hz) nf
  exact ⟨a4, a7', a8, b8⟩
/-- THE BIN OF A BIN'S SPEED -/
theorem near {c v r : Nat} {e n k : Int} (hC : chk c v r e n = 0) (hv : Lim v) (hr : Lim r) (h1 : 2 * k < n) (h2 : -n < 2 * k) :
    (spd c v r e n (floatOfInt .f64 k)).2 = 0 ∧ (bin c v r e n (spd c v r e n (floatOfInt .f64 k)).1).2 = 0 ∧ cle (fabs (fsub (bin c v r e n (spd c v r e n (floatOfInt .f64 k)).1).1 (floatOfInt .f64 k))) 4472406533629990549 = true ∧ ¬ Nan (fsub (bin c v r e n (spd c v r e n (floatOfInt .f64 k)).1).1 (floatOfInt .f64 k)) := by
  obtain ⟨oc, ov, orr, e1, e2, n1, n2⟩ := chk_zero hC
  obtain ⟨⟨kf, ke⟩, kl, _⟩ := V.ofInt (n := k) (by omega)
  have main : Lk.Fin (spF v r e n (floatOfInt .f64 k)) ∧ Lk.Fin (biT v r e (spF v r e n (floatOfInt .f64 k))) ∧ Lk.Fin (biF v r e n (spF v r e n (floatOfInt .f64 k))) ∧ cle (fabs (fsub (biF v r e n (spF v r e n (floatOfInt .f64 k))) (floatOfInt .f64 k))) 4472406533629990549 = true := by
    by_cases hk : k = 0
    · subst hk
      have z0 : floatOfInt .f64 0 = 0 := by decide +kernel
      rw [z0]
      obtain ⟨a, b, d, f⟩ := chain0 ov orr hr e1 e2 n1 n2
      refine ⟨a, b, d, near_end sg_one d (by decide +kernel) (by rw [f, Rat.mul_zero]) (a := 0) (by kernel_rfl) ⟨?_, ?_⟩ (by decide) (by decide)⟩
      all_goals rw [Rat.zero_mul]; exact Rat.le_refl
    · obtain ⟨s, a, hs, ha, ea⟩ : ∃ s a, Sg s ∧ (1 ≤ a ∧ 2 * a + 1 ≤ (n : Rat) ∧ a ≤ 128) ∧ (k : Rat) = s * a := by
        have c1 : ((1 : Int) : Rat) = 1 := rfl
        have c2 : ((2 : Int) : Rat) = 2 := rfl
        have c128 : ((128 : Int) : Rat) = 128 := rfl
        by_cases hp : 0 < k
        · refine ⟨1, k, .inl rfl, ⟨?_, ?_, ?_⟩, by rw [Rat.one_mul]⟩
          · have := Rat.intCast_le_intCast.2 (show 1 ≤ k by omega); rwa [c1] at this
          · have := Rat.intCast_le_intCast.2 (show 2 * k + 1 ≤ n by omega); rwa [Rat.intCast_add, Rat.intCast_mul, c1, c2] at this
          · have := Rat.intCast_le_intCast.2 (show k ≤ 128 by omega); rwa [c128] at this
        · refine ⟨-1, ((-k : Int) : Rat), .inr rfl, ⟨?_, ?_, ?_⟩, by rw [Rat.intCast_neg]; grind⟩
          · have := Rat.intCast_le_intCast.2 (show 1 ≤ -k by omega); rwa [c1] at this
          · have := Rat.intCast_le_intCast.2 (show 2 * -k + 1 ≤ n by omega); rwa [Rat.intCast_add, Rat.intCast_mul, c1, c2] at this
          · have := Rat.intCast_le_intCast.2 (show -k ≤ 128 by omega); rwa [c128] at this
      obtain ⟨b1, b2, b3, m, b4, b5⟩ := chain (e := e) (n := n) hs hv hr (okf_pos ov).1 (okf_pos orr).1 e1 e2 n1 n2 kf (ke.trans ea) ha.1 ha.2.1
      exact ⟨b1, b2, b3, near_end hs b3 kf b4 (ke.trans ea) b5 (by have := ha.1; grind) ha.2.2⟩
  obtain ⟨m1, m2, m3, m4⟩ := main
  have hA : ask c v r e n (floatOfInt .f64 k) = 0 := by unfold ask; rw [if_pos hC, if_pos kf]
  have hS : spd c v r e n (floatOfInt .f64 k) = (spF v r e n (floatOfInt .f64 k), 0) := by
    unfold spd; rw [if_pos hA, (told_pos m1).1, (told_pos m1).2]
  have hA2 : ask c v r e n (spF v r e n (floatOfInt .f64 k)) = 0 := by unfold ask; rw [if_pos hC, if_pos m1]
  have hB : bin c v r e n (spF v r e n (floatOfInt .f64 k)) = (biF v r e n (spF v r e n (floatOfInt .f64 k)), 0) := by
    unfold bin; rw [if_pos hA2, if_pos m2]
  rw [hS]
  show (0 : Int) = 0 ∧ (bin c v r e n (spF v r e n (floatOfInt .f64 k))).2 = 0 ∧ cle (fabs (fsub (bin c v r e n (spF v r e n (floatOfInt .f64 k))).1 (floatOfInt .f64 k))) 4472406533629990549 = true ∧ ¬ Nan (fsub (bin c v r e n (spF v r e n (floatOfInt .f64 k))).1 (floatOfInt .f64 k))
  rw [hB]
  exact ⟨rfl, rfl, m4, (fsub_fin m3 kf).2.1⟩
end Go.Proofs.Ytakkdkgbkedliaa
