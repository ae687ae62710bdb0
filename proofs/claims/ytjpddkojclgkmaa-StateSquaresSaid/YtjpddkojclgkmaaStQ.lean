import Derived.Test.YtjpddkojclgkmaaStP
set_option autoImplicit false
namespace Lk

theorem ev_zero0 : ev 0 = 0 := ev_zero_iff.2 (by decide +kernel)
theorem nan0 : ¬ Nan 0 := by decide +kernel
theorem fin0 : Fin 0 := by decide +kernel
structure MayS (s : St) : Prop where
  x : Fin s.x
  v : Fin s.v
  pxx : Fin s.pxx
  pxv : Fin s.pxv
  pvv : Fin s.pvv
  xx0 : 0 ≤ ev s.pxx
  vv0 : 0 ≤ ev s.pvv
theorem may_iff {s : St} : mayF s = true ↔ MayS s := by
  unfold mayF
  simp only [Bool.and_eq_true, decide_eq_true_eq, cge_iff, ev_zero0]
  constructor
  · rintro ⟨⟨⟨⟨⟨⟨a, b⟩, c⟩, d⟩, e⟩, _, _, f⟩, _, _, g⟩; exact ⟨a, b, c, d, e, f, g⟩
  · intro h; exact ⟨⟨⟨⟨⟨⟨h.x, h.v⟩, h.pxx⟩, h.pxv⟩, h.pvv⟩, h.pxx.not_nan, nan0, h.xx0⟩, h.pvv.not_nan, nan0, h.vv0⟩
theorem abv_not_nan (x : Nat) : ¬ Nan (abv x) := by
  unfold abv; split
  · rename_i h; exact (cgt_iff.1 h).1
  · exact nan0
theorem abv_nonneg (x : Nat) : 0 ≤ ev (abv x) := by
  unfold abv; split
  · rename_i h; have := (cgt_iff.1 h).2.2; rw [ev_zero0] at this; grind
  · rw [ev_zero0]; exact Rat.le_refl
theorem abv_le {x : Nat} {b : Rat} (hb : 0 ≤ b) (h : ¬ Nan x → ev x ≤ b) : ev (abv x) ≤ b := by
  unfold abv; split
  · rename_i hc; exact h (cgt_iff.1 hc).1
  · rw [ev_zero0]; exact hb
/-- a weight: what is of two, over both -/
theorem weight {a n : Nat} (ha : Fin a) (hn : Fin n) (a0 : 0 ≤ ev a) (n0 : 0 ≤ ev n) (hW : Fin (fadd a n)) (hp : 0 < ev (fadd a n)) :
    Fin (fdiv a (fadd a n)) ∧ 0 ≤ ev (fdiv a (fadd a n)) ∧ ev (fdiv a (fadd a n)) ≤ 1 := by
  have hle : ev a ≤ ev (fadd a n) := (fadd_nonneg ha hn.not_nan n0).2
  generalize fadd a n = W at *
  obtain ⟨_, h2, h3, _⟩ := fdiv_fin ha hW (by intro h; rw [h] at hp; exact absurd hp (by decide))
  have q0 : 0 ≤ ev a / ev W := by
    rw [Rat.div_def]; exact Rat.mul_nonneg a0 (Rat.le_of_lt (Rat.inv_pos.2 hp))
  have q1 : ev a / ev W ≤ 1 := by
    have h : ev a / ev W * ev W ≤ 1 * ev W := by
      rw [Rat.div_mul_cancel (by intro h; rw [h] at hp; exact absurd hp (by decide))]; grind
    exact Rat.le_of_mul_le_mul_right h hp
  have r1 : rc 1 = 1 := by
    have := rc_exact (x := 1) (rep_int (m := 1) (by decide)) (by have := p2_pos 1024; grind) (by have := p2_lt (a := 0) (b := 1024) (by omega); rw [p2_zero] at this; grind)
    exact this
  have e0 : 0 ≤ ev (fdiv a W) := by rw [h3]; exact rc_nonneg q0
  have e1 : ev (fdiv a W) ≤ 1 := by rw [h3]; have := rc_mono q1; rwa [r1] at this
  have hP := p2_lt (a := 0) (b := 1024) (by omega)
  rw [p2_zero] at hP
  exact ⟨fin_of_ev h2 (by grind) (by grind), e0, e1⟩

theorem seen_sq {s : St} {x nz : Nat} (hm : MayS s) (hn : cge nz 0 = true) (h1 : cgt (fadd s.pxx nz) 0 = true) (h2 : cle (fadd s.pxx nz) MAXF = true) :
    cge (seenF s x nz).pxx 0 = true ∧ cle (seenF s x nz).pxx s.pxx = true ∧ cle (seenF s x nz).pxx nz = true ∧ cge (seenF s x nz).pvv 0 = true ∧ cle (seenF s x nz).pvv s.pvv = true := by
  obtain ⟨nn, _, n0⟩ := cge_iff.1 hn
  rw [ev_zero0] at n0
  obtain ⟨wn, _, wp⟩ := cgt_iff.1 h1
  rw [ev_zero0] at wp
  obtain ⟨_, _, wm⟩ := cle_iff.1 h2
  have hP := p2_pos 1024
  have hW : Fin (fadd s.pxx nz) := by
    rcases not_nan wn with h | h
    · exact h
    · exfalso
      have h4 := mg_lt (r := INF - 1) (s := INF) (by unfold INF; omega)
      rw [mg_inf] at h4
      rw [ev_max] at wm
      rcases inf_ev h with e | e <;> rw [e] at wm wp <;> grind
  have hN : Fin nz := by
    rcases not_nan nn with h | h
    · exact h
    · exfalso
      have : fadd s.pxx nz = wd (sgn nz) INF := by unfold fadd; rw [add_fin_inf hm.pxx h]; rfl
      rw [this] at hW
      unfold Fin at hW; rw [rg_wd _ (Nat.le_refl _)] at hW; omega
  obtain ⟨kf, k0, k1⟩ := weight hm.pxx hN hm.xx0 n0 hW wp
  unfold seenF
  rw [if_pos h1]
  generalize hk : fdiv s.pxx (fadd s.pxx nz) = k at *
  -- the place's square
  obtain ⟨_, p2', p3, _⟩ := fmul_fin kf hN
  have q0 : 0 ≤ ev (fmul k nz) := by rw [p3]; exact rc_nonneg (Rat.mul_nonneg k0 n0)
  have q1 : ev (fmul k nz) ≤ ev nz := by
    rw [p3]
    have : ev k * ev nz ≤ 1 * ev nz := Rat.mul_le_mul_of_nonneg_right k1 n0
    have := rc_mono (x := ev k * ev nz) (y := ev nz) (by grind)
    rwa [rc_ev nz nn] at this
  -- the speed's square
  have hvv : ¬ Nan (fsub s.pvv (fmul (fdiv s.pxv (fadd s.pxx nz)) s.pxv)) → ev (fsub s.pvv (fmul (fdiv s.pxv (fadd s.pxx nz)) s.pxv)) ≤ ev s.pvv := by
    intro hnn
    have hmn : ¬ Nan (fmul (fdiv s.pxv (fadd s.pxx nz)) s.pxv) := fun h => hnn (nan_fsub (.inr h))
    have hhn : ¬ Nan (fdiv s.pxv (fadd s.pxx nz)) := fun h => hmn (nan_fmul (.inl h))
    have sW : sgn (fadd s.pxx nz) = false := ev_pos_sgn wp
    have hs : sgn (fmul (fdiv s.pxv (fadd s.pxx nz)) s.pxv) = false := by
      rw [sgn_fmul hmn, sgn_fdiv hhn, sW]; cases sgn s.pxv <;> rfl
    generalize fmul (fdiv s.pxv (fadd s.pxx nz)) s.pxv = m at *
    have m0 := ev_nonneg_of_sgn hs
    rcases not_nan hmn with hf | hi
    · rw [(fsub_fin hm.pvv hf).2.2.1]
      have := rc_mono (x := ev s.pvv - ev m) (y := ev s.pvv) (by grind)
      rwa [rc_ev _ hm.pvv.not_nan] at this
    · rw [fsub_eq]
      have hi' : Inf (fneg m) := inf_fneg.2 hi
      have : fadd s.pvv (fneg m) = wd (sgn (fneg m)) INF := by unfold fadd; rw [add_fin_inf hm.pvv hi']; rfl
      rw [this, sgn_fneg, hs, ev_wd _ (Nat.le_refl _), mg_inf]
      have := ev_fin hm.pvv
      simp only [sv, Bool.not_false, if_true]; grind
  refine ⟨?_, ?_, ?_, ?_, ?_⟩
  · rw [cge_iff, ev_zero0]
    simp only
    split
    · exact ⟨p2', nan0, q0⟩
    · exact ⟨hm.pxx.not_nan, nan0, hm.xx0⟩
  · rw [cle_iff]
    simp only
    split
    · rename_i hc; have := (clt_iff.1 hc).2.2; exact ⟨p2', hm.pxx.not_nan, by grind⟩
    · exact ⟨hm.pxx.not_nan, hm.pxx.not_nan, Rat.le_refl⟩
  · rw [cle_iff]
    simp only
    split
    · exact ⟨p2', nn, q1⟩
    · rename_i hc
      refine ⟨hm.pxx.not_nan, nn, ?_⟩
      have : ¬ ev (fmul k nz) < ev s.pxx := fun h => hc (clt_iff.2 ⟨p2', hm.pxx.not_nan, h⟩)
      grind
  · rw [cge_iff, ev_zero0]; exact ⟨abv_not_nan _, nan0, abv_nonneg _⟩
  · rw [cle_iff]; exact ⟨abv_not_nan _, hm.pvv.not_nan, abv_le hm.vv0 hvv⟩

theorem far_sq {s : St} {x nz : Nat} (_hm : MayS s) (hn : ¬ Nan (farF s x nz)) : sgn (farF s x nz) = false := by
  unfold farF at hn ⊢
  by_cases hc : cgt (fadd s.pxx nz) 0 = true
  · rw [if_pos hc] at hn ⊢
    obtain ⟨_, _, wp⟩ := cgt_iff.1 hc
    rw [ev_zero0] at wp
    have hm : ¬ Nan (fmul (fsub x s.x) (fsub x s.x)) := fun h => hn (nan_fdiv (.inl h))
    rw [sgn_fdiv hn, sgn_fmul hm, ev_pos_sgn wp]; simp
  · rw [if_neg hc]; decide +kernel

theorem ahead_sq {s : St} {t q : Nat} (hm : MayS s) (hq : cge q 0 = true) : clt (aheadF s t q).pvv s.pvv = false ∧ clt (aheadF s t q).pxx 0 = false := by
  obtain ⟨qn, _, q0⟩ := cge_iff.1 hq
  rw [ev_zero0] at q0
  unfold aheadF
  by_cases hc : cgt t 0 = true
  · rw [if_pos hc]
    obtain ⟨tn, _, t0⟩ := cgt_iff.1 hc
    rw [ev_zero0] at t0
    constructor
    · rw [← Bool.not_eq_true, clt_iff]
      rintro ⟨h1, _, h3⟩
      have hmn : ¬ Nan (fmul q t) := fun h => h1 (nan_fadd (.inr h))
      have m0 : 0 ≤ ev (fmul q t) := by
        by_cases hz : ev q = 0
        · by_cases hf : Fin t
          · have hqf : Fin q := by unfold Fin; rw [ev_zero_iff.1 hz]; unfold INF; omega
            rw [(fmul_fin hqf hf).2.2.1, hz, Rat.zero_mul, rc_zero]; exact Rat.le_refl
          · rcases not_nan tn with h | h
            · exact absurd h hf
            · exfalso; apply hmn; unfold fmul; rw [mul_zero_inf hz h]; exact nan_qn
        · apply ev_nonneg_of_sgn
          rw [sgn_fmul hmn, ev_pos_sgn t0, ev_pos_sgn (by grind)]; rfl
      have := (fadd_nonneg hm.pvv hmn m0).2
      grind
    · rw [← Bool.not_eq_true, clt_iff, ev_zero0]
      rintro ⟨_, _, h3⟩
      have := abv_nonneg (fadd (fadd (fadd (fadd s.pxx (fmul s.pxv t)) (fmul s.pxv t)) (fmul (fmul s.pvv t) t)) (fdiv (fmul (fmul (fmul q t) t) t) C3))
      grind
  · rw [if_neg hc]
    constructor
    · rw [← Bool.not_eq_true, clt_iff]; rintro ⟨_, _, h3⟩; exact absurd h3 Rat.lt_irrefl
    · rw [← Bool.not_eq_true, clt_iff, ev_zero0]; rintro ⟨_, _, h3⟩; have := hm.xx0; grind
end Lk
