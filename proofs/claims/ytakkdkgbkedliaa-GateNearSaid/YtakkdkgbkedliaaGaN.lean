import Derived.Test.YtakkdkgbkedliaaGaG
set_option autoImplicit false
set_option linter.unusedVariables false
namespace Go.Proofs.Ytakkdkgbkedliaa
open Go.RowKit Lk
/-! what is turned about -/
theorem fneg_fneg {x : Nat} (h : x < 2 ^ 64) : fneg (fneg x) = x := by
  unfold fneg
  rw [sgn_wd' _ (rg_lt x), rg_wd' _ (rg_lt x), Bool.not_not]
  exact (word_of x h).symm
theorem fneg_lt' (x : Nat) : fneg x < 2 ^ 64 := by
  have := rg_lt x
  unfold fneg wd; split <;> (unfold SGN at *; omega)
theorem fneg_wd {s : Bool} {r : Nat} (h : r ≤ INF) : fneg (wd s r) = wd (!s) r := by
  unfold fneg; rw [sgn_wd s h, rg_wd s h]
theorem is_neg_of {a b : Nat} (ha : a < 2 ^ 64) (hn : ¬ Nan a) (he : ev a = - ev b) (hs : sgn a = !sgn b) : Is a (fneg b) :=
  .inr ⟨word_inj ha (fneg_lt' b) (by rw [ev_fneg, he]) (by rw [sgn_fneg, hs]), hn⟩
theorem is_nan {a b : Nat} (ha : Nan a) (hb : Nan b) : Is a b := .inl ⟨ha, hb⟩
theorem is_wd (s t u : Bool) (r : Nat) (hr : r ≤ INF) (h : s = !t) : Is (wd s r) (fneg (wd t r)) := by
  rw [fneg_wd hr, h]; exact Is.refl _
theorem is_div_neg (a b : Nat) : Is (fdiv (fneg a) b) (fneg (fdiv a b)) := by
  have hx : ∀ s t : Bool, ((!s) ^^ t) = !(s ^^ t) := by decide
  rcases fin_or a with ha | ha | ha
  · rcases fin_or b with hb | hb | hb
    · by_cases h0 : ev b = 0
      · by_cases h1 : ev a = 0
        · unfold fdiv; rw [div_zero_zero h1 h0, div_zero_zero (by rw [ev_fneg, h1]; rfl) h0]
          exact is_nan nan_qn (nan_fneg.2 nan_qn)
        · unfold fdiv; rw [div_zero ha h1 h0, div_zero (fin_fneg.2 ha) (by rw [ev_fneg]; grind) h0]
          exact is_wd _ _ true _ (Nat.le_refl _) (by rw [sgn_fneg, hx])
      · obtain ⟨p1, p2, p3, p4⟩ := fdiv_fin ha hb h0
        obtain ⟨q1, q2, q3, q4⟩ := fdiv_fin (fin_fneg.2 ha) hb h0
        refine is_neg_of q1 q2 ?_ ?_
        · rw [q3, p3, ev_fneg, ← rc_neg]; congr 1; grind
        · rw [q4, p4, sgn_fneg, hx]
    · unfold fdiv; rw [div_fin_inf ha hb, div_fin_inf (fin_fneg.2 ha) hb]
      exact is_wd _ _ true _ (Nat.zero_le _) (by rw [sgn_fneg, hx])
    · exact is_nan (nan_fdiv (.inr hb)) (nan_fneg.2 (nan_fdiv (.inr hb)))
  · rcases fin_or b with hb | hb | hb
    · unfold fdiv; rw [div_inf_fin ha hb, div_inf_fin (inf_fneg.2 ha) hb]
      exact is_wd _ _ true _ (Nat.le_refl _) (by rw [sgn_fneg, hx])
    · unfold fdiv; rw [div_inf_inf ha hb, div_inf_inf (inf_fneg.2 ha) hb]
      exact is_nan nan_qn (nan_fneg.2 nan_qn)
    · exact is_nan (nan_fdiv (.inr hb)) (nan_fneg.2 (nan_fdiv (.inr hb)))
  · exact is_nan (nan_fdiv (.inl (nan_fneg.2 ha))) (nan_fneg.2 (nan_fdiv (.inl ha)))
theorem is_mul_neg (a b : Nat) : Is (fmul (fneg a) b) (fneg (fmul a b)) := by
  have hx : ∀ s t : Bool, ((!s) ^^ t) = !(s ^^ t) := by decide
  have e0 : ∀ a : Nat, ev (fneg a) = 0 ↔ ev a = 0 := fun a => by rw [ev_fneg]; constructor <;> intro h <;> grind
  rcases fin_or a with ha | ha | ha
  · rcases fin_or b with hb | hb | hb
    · obtain ⟨p1, p2, p3, p4⟩ := fmul_fin ha hb
      obtain ⟨q1, q2, q3, q4⟩ := fmul_fin (fin_fneg.2 ha) hb
      refine is_neg_of q1 q2 ?_ ?_
      · rw [q3, p3, ev_fneg, ← rc_neg]; congr 1; grind
      · rw [q4, p4, sgn_fneg, hx]
    · by_cases h0 : ev a = 0
      · unfold fmul; rw [mul_zero_inf h0 hb, mul_zero_inf ((e0 a).2 h0) hb]
        exact is_nan nan_qn (nan_fneg.2 nan_qn)
      · unfold fmul; rw [mul_fin_inf ha hb h0, mul_fin_inf (fin_fneg.2 ha) hb (fun h => h0 ((e0 a).1 h))]
        exact is_wd _ _ true _ (Nat.le_refl _) (by rw [sgn_fneg, hx])
    · exact is_nan (nan_fmul (.inr hb)) (nan_fneg.2 (nan_fmul (.inr hb)))
  · rcases fin_or b with hb | hb | hb
    · by_cases h0 : ev b = 0
      · unfold fmul; rw [mul_inf_zero ha h0, mul_inf_zero (inf_fneg.2 ha) h0]
        exact is_nan nan_qn (nan_fneg.2 nan_qn)
      · unfold fmul; rw [mul_inf_fin ha hb h0, mul_inf_fin (inf_fneg.2 ha) hb h0]
        exact is_wd _ _ true _ (Nat.le_refl _) (by rw [sgn_fneg, hx])
    · unfold fmul; rw [mul_inf_inf ha hb, mul_inf_inf (inf_fneg.2 ha) hb]
      exact is_wd _ _ true _ (Nat.le_refl _) (by rw [sgn_fneg, hx])
    · exact is_nan (nan_fmul (.inr hb)) (nan_fneg.2 (nan_fmul (.inr hb)))
  · exact is_nan (nan_fmul (.inl (nan_fneg.2 ha))) (nan_fneg.2 (nan_fmul (.inl ha)))
theorem is_mul_neg' {a b : Nat} (hb : Lk.Fin b) : Is (fmul a (fneg b)) (fneg (fmul a b)) ∨ Lk.Inf a := by
  have hx : ∀ s t : Bool, (s ^^ (!t)) = !(s ^^ t) := by decide
  rcases fin_or a with ha | ha | ha
  · left
    obtain ⟨p1, p2, p3, p4⟩ := fmul_fin ha hb
    obtain ⟨q1, q2, q3, q4⟩ := fmul_fin ha (fin_fneg.2 hb)
    refine is_neg_of q1 q2 ?_ ?_
    · rw [q3, p3, ev_fneg, ← rc_neg]; congr 1; grind
    · rw [q4, p4, sgn_fneg, hx]
  · exact .inr ha
  · exact .inl (is_nan (nan_fmul (.inl ha)) (nan_fneg.2 (nan_fmul (.inl ha))))
theorem is_fneg' {a b : Nat} (h : Is a b) : Is (fneg a) (fneg b) := by
  rcases h with ⟨h1, h2⟩ | ⟨rfl, h⟩
  · exact .inl ⟨nan_fneg.2 h1, nan_fneg.2 h2⟩
  · exact Is.refl _
theorem spF_neg (v r : Nat) (e n : Int) (x : Nat) : Is (spF v r e n (fneg x)) (fneg (spF v r e n x)) := by
  unfold spF
  refine is_fneg' ?_
  rw [is_fdiv (A := fneg (fmul (fdiv x (floatOfInt .f64 n)) v)) ?_ (Is.refl _)]
  · exact is_div_neg _ _
  · rw [is_fmul (is_div_neg x (floatOfInt .f64 n)) (Is.refl v)]
    exact is_mul_neg _ _
theorem ask_neg (c v r : Nat) (e n : Int) (x : Nat) : ask c v r e n (fneg x) = ask c v r e n x := by
  unfold ask; simp only [fin_fneg]
theorem ceq_neg {a b : Nat} (hn : ¬ Nan b) (h : Is a (fneg b)) : ceq a (fneg b) = true := by
  rw [h.eq (fun k => hn (nan_fneg.1 k))]
  exact ceq_iff.2 ⟨fun k => hn (nan_fneg.1 k), fun k => hn (nan_fneg.1 k), rfl⟩
theorem tld_neg {a b : Nat} (h : Is a (fneg b)) : tle a = tle b ∧ (tle b = 0 → ceq (tld a) (fneg (tld b)) = true) := by
  by_cases hf : Lk.Fin b
  · have ha : Lk.Fin a := (is_fin h).2 (fin_fneg.2 hf)
    rw [(told_pos hf).1, (told_pos hf).2, (told_pos ha).1, (told_pos ha).2]
    exact ⟨rfl, fun _ => ceq_neg hf.not_nan h⟩
  · have ha : ¬ Lk.Fin a := fun k => hf (fin_fneg.1 ((is_fin h).1 k))
    rw [(told_neg hf).1, (told_neg hf).2, (told_neg ha).1, (told_neg ha).2]
    exact ⟨rfl, fun h => absurd h (by decide)⟩
theorem spd_neg (c v r : Nat) (e n : Int) (x : Nat) : (spd c v r e n (fneg x)).2 = (spd c v r e n x).2 ∧ ((spd c v r e n x).2 = 0 → ceq (spd c v r e n (fneg x)).1 (fneg (spd c v r e n x).1) = true) := by
  unfold spd
  rw [ask_neg]
  by_cases hA : ask c v r e n x = 0
  · rw [if_pos hA, if_pos hA]
    exact tld_neg (spF_neg v r e n x)
  · rw [if_neg hA, if_neg hA]
    exact ⟨rfl, fun h => absurd h hA⟩
/-! turns -/
theorem ev_trc_neg {x : Nat} (hf : Lk.Fin x) : ev (trc (fneg x)) = - ev (trc x) := by
  obtain ⟨z, _, _, _, t1, t2, t3, t4⟩ := trc_word hf
  obtain ⟨y, _, _, _, u1, u2, u3, u4⟩ := trc_word (fin_fneg.2 hf)
  rw [rg_fneg] at u4
  have : y = z := u4.trans t4.symm
  subst this
  rw [u1, t1, sgn_fneg, ← rc_neg]
  congr 1
  cases sgn x <;> simp [sv]
theorem ev_part_neg {x : Nat} (hf : Lk.Fin x) : ev (fsub (fneg x) (trc (fneg x))) = - ev (fsub x (trc x)) := by
  obtain ⟨ft, _⟩ := trc_between hf
  obtain ⟨ft', _⟩ := trc_between (fin_fneg.2 hf)
  obtain ⟨_, _, d3, _⟩ := fsub_fin hf ft
  obtain ⟨_, _, d3', _⟩ := fsub_fin (fin_fneg.2 hf) ft'
  rw [d3, d3', ev_trc_neg hf, ev_fneg, ← rc_neg]
  congr 1
  grind
theorem ev_half : ev 4602678819172646912 = 1 / 2 := by kernel_rfl
theorem ev_nhalf : ev 13826050856027422720 = - (1 / 2) := by kernel_rfl
theorem ev_one : ev 4607182418800017408 = 1 := by kernel_rfl
noncomputable def wv (q : Rat) : Rat := if 1 / 2 ≤ q then rc (q - 1) else if q < - (1 / 2) then rc (q + 1) else q
theorem ev_wrp {x : Nat} (hf : Lk.Fin x) (hl : x < 2 ^ 64) : ev (wrp x) = wv (ev (fsub x (trc x))) := by
  obtain ⟨fd, _⟩ := frac hf hl
  have k1 : cge (fsub x (trc x)) 4602678819172646912 = decide (1 / 2 ≤ ev (fsub x (trc x))) := by
    rw [Bool.eq_iff_iff, cge_iff, decide_eq_true_eq, ev_half]
    exact ⟨fun h => h.2.2, fun h => ⟨fd.not_nan, by decide +kernel, h⟩⟩
  have k2 : clt (fsub x (trc x)) 13826050856027422720 = decide (ev (fsub x (trc x)) < - (1 / 2)) := by
    rw [Bool.eq_iff_iff, clt_iff, decide_eq_true_eq, ev_nhalf]
    exact ⟨fun h => h.2.2, fun h => ⟨fd.not_nan, by decide +kernel, h⟩⟩
  have f1 : Lk.Fin 4607182418800017408 := by decide +kernel
  unfold wrp wv
  rw [k1, k2]
  by_cases h1 : 1 / 2 ≤ ev (fsub x (trc x))
  · rw [if_pos (decide_eq_true h1), if_pos h1, (fsub_fin fd f1).2.2.1, ev_one]
  · rw [if_neg (by simpa using h1), if_neg h1]
    by_cases h2 : ev (fsub x (trc x)) < - (1 / 2)
    · rw [if_pos (decide_eq_true h2), if_pos h2, (fadd_fin fd f1).2.2.1, ev_one]
    · rw [if_neg (by simpa using h2), if_neg h2]
theorem rc_nhalf : rc (- (1 / 2)) = - (1 / 2) := by
  have := rc_ev 13826050856027422720 (by decide +kernel)
  rwa [ev_nhalf] at this
theorem wv_neg (q : Rat) : wv (-q) = - wv q ∨ (wv q = - (1 / 2) ∧ wv (-q) = - (1 / 2)) := by
  unfold wv
  by_cases h1 : q = 1 / 2
  · right; subst h1
    rw [if_pos (by grind), if_neg (by grind), if_neg (by grind), show (1 / 2 : Rat) - 1 = - (1 / 2) by grind, rc_nhalf]
    exact ⟨rfl, rfl⟩
  · by_cases h2 : q = - (1 / 2)
    · right; subst h2
      rw [if_neg (by grind), if_neg (by grind), if_pos (by grind), show - -(1 / 2 : Rat) - 1 = - (1 / 2) by grind, rc_nhalf]
      exact ⟨rfl, rfl⟩
    · left
      by_cases h3 : 1 / 2 < q
      · rw [if_neg (by grind), if_pos (by grind), if_pos (by grind), ← rc_neg]; congr 1; grind
      · by_cases h4 : q < - (1 / 2)
        · rw [if_pos (by grind), if_neg (by grind), if_pos (by grind), ← rc_neg]; congr 1; grind
        · rw [if_neg (by grind), if_neg (by grind), if_neg (by grind), if_neg (by grind)]
theorem wrp_fin {x : Nat} (hf : Lk.Fin x) (hl : x < 2 ^ 64) : Lk.Fin (wrp x) := by
  obtain ⟨fd, _⟩ := frac hf hl
  unfold wrp
  by_cases h1 : cge (fsub x (trc x)) 4602678819172646912 = true
  · rw [if_pos h1]; exact (sub_one_word fd h1).2.2
  · rw [if_neg h1]
    by_cases h2 : clt (fsub x (trc x)) 13826050856027422720 = true
    · rw [if_pos h2]; exact (add_one_word fd h2).2.2
    · rw [if_neg h2]; exact fd
theorem biT_neg (v r : Nat) (e : Int) (x : Nat) : Is (biT v r e (fneg x)) (fneg (biT v r e x)) := by
  have h2 : Is (fmul 4611686018427387904 (fneg x)) (fneg (fmul 4611686018427387904 x)) := by
    rcases fin_or x with hx | hx | hx
    · rcases is_mul_neg' (a := 4611686018427387904) hx with h | h
      · exact h
      · exact absurd h (by decide +kernel)
    · have f2 : Lk.Fin 4611686018427387904 := by decide +kernel
      have e2 : ev 4611686018427387904 ≠ 0 := by rw [V.two.2]; decide
      unfold fmul; rw [mul_fin_inf f2 hx e2, mul_fin_inf f2 (inf_fneg.2 hx) e2]
      exact is_wd _ _ true _ (Nat.le_refl _) (by rw [sgn_fneg]; cases sgn x <;> decide)
    · exact is_nan (nan_fmul (.inr (nan_fneg.2 hx))) (nan_fneg.2 (nan_fmul (.inr hx)))
  unfold biT
  rw [is_fmul (A := fneg (fdiv (fmul 4611686018427387904 x) v)) ?_ (Is.refl _)]
  · exact is_mul_neg _ _
  · rw [is_fdiv h2 (Is.refl v)]
    exact is_div_neg _ _
theorem qn_lt : qn < 2 ^ 64 := by decide +kernel
theorem fmul_lt (a b : Nat) : fmul a b < 2 ^ 64 := by
  rcases fin_or a with ha | ha | ha
  · rcases fin_or b with hb | hb | hb
    · exact (fmul_fin ha hb).1
    · unfold fmul
      by_cases h0 : ev a = 0
      · rw [mul_zero_inf h0 hb]; exact qn_lt
      · rw [mul_fin_inf ha hb h0]; exact wd_lt _ (Nat.le_refl _)
    · unfold fmul; rw [mul_nan (.inr hb)]; exact qn_lt
  · rcases fin_or b with hb | hb | hb
    · unfold fmul
      by_cases h0 : ev b = 0
      · rw [mul_inf_zero ha h0]; exact qn_lt
      · rw [mul_inf_fin ha hb h0]; exact wd_lt _ (Nat.le_refl _)
    · unfold fmul; rw [mul_inf_inf ha hb]; exact wd_lt _ (Nat.le_refl _)
    · unfold fmul; rw [mul_nan (.inr hb)]; exact qn_lt
  · unfold fmul; rw [mul_nan (.inl ha)]; exact qn_lt
theorem biT_lt {v r : Nat} {e : Int} {x : Nat} (h : Lk.Fin (biT v r e x)) : biT v r e x < 2 ^ 64 := fmul_lt _ _
/-- half of the rows, below nought -/
def halfW (n : Int) : Nat := fdiv (fneg (floatOfInt .f64 n)) 4611686018427387904
theorem bin_neg (c v r : Nat) (e n : Int) (x : Nat) : (bin c v r e n (fneg x)).2 = (bin c v r e n x).2 ∧ ((bin c v r e n x).2 = 0 → 1 ≤ n ∧ n ≤ 256 ∧ (bin c v r e n x).1 < 2 ^ 64 ∧ (ceq (bin c v r e n (fneg x)).1 (fneg (bin c v r e n x).1) = true ∨ (ceq (bin c v r e n x).1 (halfW n) = true ∧ ceq (bin c v r e n (fneg x)).1 (halfW n) = true))) := by
  unfold bin
  rw [ask_neg]
  by_cases hA : ask c v r e n x = 0
  · rw [if_pos hA, if_pos hA]
    obtain ⟨hC, hx⟩ := ask_zero hA
    obtain ⟨_, _, _, _, _, n1, n2⟩ := chk_zero hC
    have hI := biT_neg v r e x
    by_cases hT : Lk.Fin (biT v r e x)
    · have hT' : Lk.Fin (biT v r e (fneg x)) := (is_fin hI).2 (fin_fneg.2 hT)
      rw [if_pos hT, if_pos hT']
      have hl := biT_lt hT
      have e1 : biT v r e (fneg x) = fneg (biT v r e x) := hI.eq (fun k => hT.not_nan (nan_fneg.1 k))
      refine ⟨rfl, fun _ => ⟨n1, n2, ?_⟩⟩
      show biF v r e n x < 2 ^ 64 ∧ (ceq (biF v r e n (fneg x)) (fneg (biF v r e n x)) = true ∨ (ceq (biF v r e n x) (halfW n) = true ∧ ceq (biF v r e n (fneg x)) (halfW n) = true))
      unfold biF
      rw [e1, fneg_fneg hl]
      generalize biT v r e x = T at *
      have fT := fin_fneg.2 hT
      have lT := fneg_lt' T
      obtain ⟨⟨vf, ve⟩, vl, _⟩ := V.ofInt (n := n) (by omega)
      have w1 := ev_wrp hT hl
      have w2 := ev_wrp fT lT
      obtain ⟨p1, p2, p3, _⟩ := fmul_fin (wrp_fin fT lT) vf
      obtain ⟨q1, q2, q3, _⟩ := fmul_fin (wrp_fin hT hl) vf
      rw [ev_part_neg hT] at w2
      refine ⟨p1, ?_⟩
      rcases wv_neg (ev (fsub T (trc T))) with h | ⟨h1, h2⟩
      · left
        refine ceq_iff.2 ⟨q2, fun k => p2 (nan_fneg.1 k), ?_⟩
        rw [ev_fneg, q3, p3, w1, w2, h, ← rc_neg]
        congr 1; grind
      · right
        have f2 := V.two
        obtain ⟨h3, h4, h5, _⟩ := fdiv_fin (fin_fneg.2 vf) f2.1 (by rw [f2.2]; decide)
        have eh : ev (halfW n) = rc (-(1 / 2) * (n : Rat)) := by
          unfold halfW; rw [h5, ev_fneg, ve, f2.2]; congr 1
          have : ((2 : Int) : Rat) = 2 := rfl
          rw [this]; grind
        refine ⟨ceq_iff.2 ⟨p2, h4, ?_⟩, ceq_iff.2 ⟨q2, h4, ?_⟩⟩
        · rw [p3, w2, h2, ve, eh]
        · rw [q3, w1, h1, ve, eh]
    · have hT' : ¬ Lk.Fin (biT v r e (fneg x)) := fun k => hT (fin_fneg.1 ((is_fin hI).1 k))
      rw [if_neg hT, if_neg hT']
      exact ⟨rfl, fun h => absurd h (by decide)⟩
  · rw [if_neg hA, if_neg hA]
    exact ⟨rfl, fun h => absurd h hA⟩
theorem spd_lt (c v r : Nat) (e n : Int) (x : Nat) : (spd c v r e n x).1 < 2 ^ 64 := by
  unfold spd
  split
  · unfold tld
    split
    · unfold spF; exact fneg_lt' _
    · show 0 < 2 ^ 64; decide
  · show 0 < 2 ^ 64; decide
end Go.Proofs.Ytakkdkgbkedliaa
