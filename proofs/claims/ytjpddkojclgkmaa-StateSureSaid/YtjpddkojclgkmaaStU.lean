import Derived.Test.YtjpddkojclgkmaaStP
import Derived.Test.YtjpddkojclgkmaaFlV
set_option autoImplicit false
set_option linter.unusedVariables false
namespace Lk
open Go
/-! a sure state, in words -/
def KW : Nat := 4607173321528770120
def KP : Nat := 4427486594234968593
/-- from 2^-k to 2^k -/
def In (x l u : Nat) : Prop := cge x l = true ∧ cle x u = true
theorem in100 {x : Nat} (h : In x 4156822456062967808 5057542381537067008) : Fin x ∧ Wi (ev x) 100 := by
  obtain ⟨h1, h2⟩ := h
  obtain ⟨n1, _, a⟩ := cge_iff.1 h1
  have b := (cle_iff.1 h2).2.2
  have l : ev 4156822456062967808 = p2 (-100) := by decide +kernel
  have u : ev 5057542381537067008 = p2 100 := by decide +kernel
  rw [l] at a
  rw [u] at b
  have h3 : p2 100 < p2 1024 := p2_lt (by decide)
  have h4 := p2_pos (-100)
  have h5 := p2_pos 1024
  exact ⟨fin_of_ev n1 (by grind) (by grind), a, b⟩
theorem in20 {x : Nat} (h : In x 4517110426252607488 4697254411347427328) : Fin x ∧ Wi (ev x) 20 := by
  obtain ⟨h1, h2⟩ := h
  obtain ⟨n1, _, a⟩ := cge_iff.1 h1
  have b := (cle_iff.1 h2).2.2
  have l : ev 4517110426252607488 = p2 (-20) := by decide +kernel
  have u : ev 4697254411347427328 = p2 20 := by decide +kernel
  rw [l] at a
  rw [u] at b
  have h3 : p2 20 < p2 1024 := p2_lt (by decide)
  have h4 := p2_pos (-20)
  have h5 := p2_pos 1024
  exact ⟨fin_of_ev n1 (by grind) (by grind), a, b⟩
theorem wi_mg {x : Nat} {k : Int} (h : Fin x) (hw : Wi (ev x) k) : Mg x k := ⟨h, by have := hw.pos; have := p2_pos k; grind, hw.2⟩
theorem ev_abv {x : Nat} (hn : ¬ Nan x) : ev (abv x) = if 0 < ev x then ev x else 0 := by
  unfold abv
  by_cases h : 0 < ev x
  · rw [if_pos h, if_pos (cgt_iff.2 ⟨hn, by decide +kernel, by rw [show ev 0 = 0 by kernel_rfl]; exact h⟩)]
  · rw [if_neg h, if_neg (fun k => h (by have := (cgt_iff.1 k).2.2; rwa [show ev 0 = 0 by kernel_rfl] at this)), show ev 0 = 0 by kernel_rfl]
theorem abv_mg {x : Nat} {k : Int} (h : Mg x k) : Mg (abv x) k := by
  unfold abv; split
  · exact h
  · exact ⟨by decide +kernel, by have := p2_pos k; rw [show ev 0 = 0 by kernel_rfl]; grind, by have := p2_pos k; rw [show ev 0 = 0 by kernel_rfl]; grind⟩
set_option maxHeartbeats 4000000 in
theorem sure_word {s : St} {t q : Nat} (hx : In s.pxx 4156822456062967808 5057542381537067008) (hv : In s.pvv 4156822456062967808 5057542381537067008) (ht : In t 4517110426252607488 4697254411347427328) (hq : ceq q 0 = true ∨ In q 4156822456062967808 5057542381537067008)
    (h : cle (fmul s.pxv s.pxv) (fmul KW (fmul s.pxx s.pvv)) = true) :
    ∃ m, m = mx6 (aheadF s t q).pxx (aheadF s t q).pvv s.pxx (fmul (fmul t t) s.pvv) (fmul t s.pvv) (fmul t (fabs s.pxv)) ∧
      (Fin (aheadF s t q).pxx ∧ Fin (aheadF s t q).pvv ∧ Fin (fmul t t) ∧ Fin (fmul (fmul t t) s.pvv) ∧ Fin (fmul t s.pvv) ∧ Fin (fmul t (fabs s.pxv))) ∧ Fin (aheadF s t q).pxv ∧
      cle (fmul (aheadF s t q).pxv (aheadF s t q).pxv) (fadd (fmul (aheadF s t q).pxx (aheadF s t q).pvv) (fmul (fmul KP m) m)) = true := by
  obtain ⟨fx, wx⟩ := in100 hx
  obtain ⟨fv, wv⟩ := in100 hv
  obtain ⟨ft, wt⟩ := in20 ht
  have hq' : Mg q 100 ∧ (ev q = 0 ∨ Wi (ev q) 100) := by
    rcases hq with hq | hq
    · obtain ⟨n1, _, e⟩ := ceq_iff.1 hq
      rw [show ev 0 = 0 by kernel_rfl] at e
      have := p2_pos 100
      have := p2_pos 1024
      exact ⟨⟨fin_of_ev n1 (by grind) (by grind), by grind, by grind⟩, .inl e⟩
    · obtain ⟨fq, wq⟩ := in100 hq
      exact ⟨wi_mg fq wq, .inr wq⟩
  obtain ⟨mq, zq⟩ := hq'
  have mxx := wi_mg fx wx
  have mv := wi_mg fv wv
  have mt := wi_mg ft wt
  -- the test
  have mK : Mg KW 0 := ⟨by decide +kernel, by decide +kernel, by decide +kernel⟩
  obtain ⟨mxv, exv⟩ := mxx.mul mv (by decide) (by decide)
  obtain ⟨mkx, ekx⟩ := mK.mul mxv (by decide) (by decide)
  obtain ⟨nc, _, hle⟩ := cle_iff.1 h
  have fc : Fin s.pxv := by
    rcases fin_or s.pxv with hf | hf | hf
    · exact hf
    · exfalso
      have : fmul s.pxv s.pxv = wd (sgn s.pxv ^^ sgn s.pxv) INF := by unfold fmul; rw [mul_inf_inf hf hf]; rfl
      rw [this, ev_wd _ (Nat.le_refl _), Bool.xor_self, mg_inf] at hle
      have l := mkx.2.2
      have := p2_lt (show (0 : Int) + (100 + 100) < 1024 by decide)
      have e : sv false (p2 1024) = p2 1024 := rfl
      grind
    · exact absurd (nan_fmul (.inl hf)) nc
  obtain ⟨_, _, ecc, _⟩ := fmul_fin fc fc
  have hxv : Wi (ev s.pxx * ev s.pvv) 200 := wx.mul wv
  have eK : ev KW ≤ 9999 / 10000 ∧ 1 / 2 ≤ ev KW := by decide +kernel
  have hcc : ev s.pxv * ev s.pxv ≤ ev s.pxx * ev s.pvv := by
    have s1 := sw_step (Sw.refl (ev s.pxx * ev s.pvv)) (by decide) (.inr (hxv.rh (by decide)))
    have wk : Wi (ev KW) 1 := by
      have a := eK.1
      have b := eK.2
      have e1 : p2 (-1) = 1 / 2 := by kernel_rfl
      have e2 : p2 1 = 2 := by kernel_rfl
      exact ⟨by rw [e1]; exact b, by rw [e2]; grind⟩
    have hk : Wi (ev s.pxx * ev s.pvv * ev KW) (200 + 1) := hxv.mul wk
    have s2 := sw_step (s1.mul1 (c := ev KW) (by have := eK.2; grind)) (by decide) (.inr (hk.rh (by decide)))
    rw [show rc (ev s.pxx * ev s.pvv) * ev KW = ev KW * ev (fmul s.pxx s.pvv) by rw [exv]; exact Rat.mul_comm _ _, ← ekx] at s2
    have p := hk.pos
    have lo := s2.2
    have g0 := s2.nn (Rat.le_of_lt p)
    have b2 := Rat.mul_le_mul_of_nonneg_left (Rk_two (k := 0 + 1 + 1) (by decide)) g0
    have l1 : p2 (-1000) * 2 ≤ p2 (-(200 + 1)) := by decide +kernel
    have u1 : ev (fmul KW (fmul s.pxx s.pvv)) ≤ p2 900 := Rat.le_trans mkx.2.2 (p2_le (by decide))
    have := hk.1
    have i := inv_rc (ecc ▸ hle) (by grind) u1
    have hi := s2.1
    have r3 : R ^ (0 + 1 + 1) * R ≤ 10001 / 10000 := by decide +kernel
    have a1 := Rat.mul_le_mul_of_nonneg_right hi (Rat.le_of_lt R_pos)
    have a2 := Rat.mul_le_mul_of_nonneg_left r3 (Rat.le_of_lt p)
    have a3 := Rat.mul_le_mul_of_nonneg_left eK.1 (Rat.le_of_lt hxv.pos)
    have a4 := hxv.pos
    grind
  have mc : Mg s.pxv 100 := by
    have h1 := le_of_sq (a := ev s.pxv) (b := p2 100) (Rat.le_of_lt (p2_pos 100)) (Rat.le_trans hcc (by have := hxv.2; rw [show (200 : Int) = 100 + 100 from rfl, p2_add] at this; exact this))
    exact ⟨fc, h1.1, h1.2⟩
  -- every step
  obtain ⟨mA, eA⟩ := mc.mul mt (by decide) (by decide)
  obtain ⟨mB, eB⟩ := mv.mul mt (by decide) (by decide)
  obtain ⟨mBT, eBT⟩ := mB.mul mt (by decide) (by decide)
  obtain ⟨mQ, eQ⟩ := mq.mul mt (by decide) (by decide)
  obtain ⟨mQT, eQT⟩ := mQ.mul mt (by decide) (by decide)
  obtain ⟨mQ3, eQ3⟩ := mQT.mul mt (by decide) (by decide)
  obtain ⟨mY, eY⟩ := mQ3.div (b := C3) (show Fin C3 by decide +kernel) (by rw [show ev C3 = 3 by decide +kernel]; decide +kernel) (by decide) (by decide)
  obtain ⟨mH, eH⟩ := mQT.div (b := C2) (show Fin C2 by decide +kernel) (by rw [show ev C2 = 2 by decide +kernel]; decide +kernel) (by decide) (by decide)
  obtain ⟨mP1, eP1⟩ := (mxx.up (k := 120) (by decide)).add mA (by decide) (by decide)
  obtain ⟨mP2, eP2⟩ := mP1.add (mA.up (by decide)) (by decide) (by decide)
  obtain ⟨mP3, eP3⟩ := (mP2.up (k := 140) (by decide)).add mBT (by decide) (by decide)
  obtain ⟨mP4, eP4⟩ := (mP3.up (k := 160) (by decide)).add mY (by decide) (by decide)
  obtain ⟨mC1, eC1⟩ := (mc.up (k := 120) (by decide)).add mB (by decide) (by decide)
  obtain ⟨mC2, eC2⟩ := (mC1.up (k := 140) (by decide)).add mH (by decide) (by decide)
  obtain ⟨mW, eW⟩ := (mv.up (k := 120) (by decide)).add mQ (by decide) (by decide)
  have mP := abv_mg mP4
  have eP := ev_abv mP4.1.not_nan
  have hct : cgt t 0 = true := cgt_iff.2 ⟨ft.not_nan, by decide +kernel, by rw [show ev 0 = 0 by kernel_rfl]; exact wt.pos⟩
  obtain ⟨mtt, ett⟩ := mt.mul mt (by decide) (by decide)
  obtain ⟨mttv, ettv⟩ := mtt.mul mv (by decide) (by decide)
  obtain ⟨mtv, etv⟩ := mt.mul mv (by decide) (by decide)
  have mfc : Mg (fabs s.pxv) 100 := ⟨fin_fabs.2 fc, by rw [ev_fabs]; have := Rat.abs_nonneg (x := ev s.pxv); have := p2_pos 100; grind, by rw [ev_fabs]; unfold Rat.abs; split; exact mc.2.2; have := mc.2.1; grind⟩
  obtain ⟨mtc, etc⟩ := mt.mul mfc (by decide) (by decide)
  have es : aheadF s t q = ⟨fadd s.x (fmul s.v t), s.v, abv (fadd (fadd (fadd (fadd s.pxx (fmul s.pxv t)) (fmul s.pxv t)) (fmul (fmul s.pvv t) t)) (fdiv (fmul (fmul (fmul q t) t) t) C3)), fadd (fadd s.pxv (fmul s.pvv t)) (fdiv (fmul (fmul q t) t) C2), fadd s.pvv (fmul q t)⟩ := by unfold aheadF; rw [hct]; rfl
  rw [es]
  show ∃ m, m = mx6 (abv _) (fadd s.pvv (fmul q t)) s.pxx (fmul (fmul t t) s.pvv) (fmul t s.pvv) (fmul t (fabs s.pxv)) ∧ _
  obtain ⟨mm, b1, b2, b3, b4, b5, b6⟩ := mx6_spec (k := 170) (mP.up (by decide)) (mW.up (by decide)) (mxx.up (by decide)) (mttv.up (by decide)) (mtv.up (by decide)) (mtc.up (by decide))
  refine ⟨_, rfl, ⟨mP.1, mW.1, mtt.1, mttv.1, mtv.1, mtc.1⟩, mC2.1, ?_⟩
  generalize mx6 (abv (fadd (fadd (fadd (fadd s.pxx (fmul s.pxv t)) (fmul s.pxv t)) (fmul (fmul s.pvv t) t)) (fdiv (fmul (fmul (fmul q t) t) t) C3))) (fadd s.pvv (fmul q t)) s.pxx (fmul (fmul t t) s.pvv) (fmul t s.pvv) (fmul t (fabs s.pxv)) = m at *
  have mKP : Mg KP 0 := ⟨by decide +kernel, by decide +kernel, by decide +kernel⟩
  obtain ⟨g1, f1⟩ := mKP.mul mm (by decide) (by decide)
  obtain ⟨g2, f2⟩ := g1.mul mm (by decide) (by decide)
  obtain ⟨g3, f3⟩ := mP.mul mW (by decide) (by decide)
  obtain ⟨g4, f4⟩ := (g2.up (k := 400) (by decide)).add (g3.up (k := 400) (by decide)) (by decide) (by decide)
  obtain ⟨g4', f4'⟩ := (g3.up (k := 400) (by decide)).add (g2.up (k := 400) (by decide)) (by decide) (by decide)
  obtain ⟨g5, f5⟩ := mC2.mul mC2 (by decide) (by decide)
  refine cle_iff.2 ⟨g5.1.not_nan, g4'.1.not_nan, ?_⟩
  rw [f5, f4']
  refine rc_mono ?_
  rw [f3, f2, f1]
  have e3 : ev C3 = 3 := by decide +kernel
  have e2 : ev C2 = 2 := by decide +kernel
  rw [eP4, eP3, eP2, eP1, eA, eBT, eB, eY, eQ3, eQT, eQ, e3] at eP
  rw [eW, eQ] at b2
  rw [ettv, ett] at b4
  rw [etv] at b5
  rw [etc, ev_fabs] at b6
  rw [eC2, eC1, eB, eH, eQT, eQ, e2, eW, eQ]
  exact sure_core wx wv wt zq hcc (Rat.le_trans mm.2.2 (p2_le (by decide))) (by decide +kernel) (by decide +kernel) b3 eP b1 rfl b2 b4 b5 b6
end Lk
