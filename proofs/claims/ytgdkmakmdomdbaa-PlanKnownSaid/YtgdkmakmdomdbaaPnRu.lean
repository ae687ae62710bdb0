import Derived.Test.YtgdkmakmdomdbaaPnT2
set_option autoImplicit false
namespace Pn
/-- which task runs at a tick -/
def runS (l : List Sl) (k : Int) : Int := l.foldl (fun r s => if s.fr ≤ k ∧ k < s.to then s.task else r) (-1)
theorem runS_snoc (l : List Sl) (s : Sl) (k : Int) : runS (l ++ [s]) k = if s.fr ≤ k ∧ k < s.to then s.task else runS l k := by unfold runS; rw [List.foldl_append]; rfl
/-- stretches that rise -/
def Rise : Int → Int → List Sl → Prop
  | _, _, [] => True
  | at_, e, s :: l => at_ ≤ s.fr ∧ s.fr < s.to ∧ s.to ≤ e ∧ Rise s.to e l
def lastTo (at_ : Int) (l : List Sl) : Int := l.foldl (fun _ s => s.to) at_
theorem Rise.at {e : Int} : ∀ {l : List Sl} {at_ : Int} {k : Nat} {s : Sl}, Rise at_ e l → l[k]? = some s → lastTo at_ (l.take k) ≤ s.fr ∧ s.fr < s.to ∧ s.to ≤ e
  | [], _, _, _, _, h => by simp at h
  | a :: l, at_, 0, s, h, hk => by
    simp only [List.getElem?_cons_zero, Option.some.injEq] at hk
    subst hk
    exact ⟨h.1, h.2.1, h.2.2.1⟩
  | a :: l, at_, k + 1, s, h, hk => by
    rw [List.getElem?_cons_succ] at hk
    exact Rise.at (at_ := a.to) h.2.2.2 hk
theorem Rise.ge {e : Int} : ∀ {l : List Sl} {at_ : Int} {k : Nat} {s : Sl}, Rise at_ e l → l[k]? = some s → at_ ≤ s.fr
  | [], _, _, _, _, h => by simp at h
  | a :: l, at_, 0, s, h, hk => by
    simp only [List.getElem?_cons_zero, Option.some.injEq] at hk
    subst hk
    exact h.1
  | a :: l, at_, k + 1, s, h, hk => by
    rw [List.getElem?_cons_succ] at hk
    have := Rise.ge (at_ := a.to) h.2.2.2 hk
    have := h.1
    have := h.2.1
    omega
theorem lastTo_snoc (at_ : Int) (l : List Sl) (s : Sl) : lastTo at_ (l ++ [s]) = s.to := by unfold lastTo; rw [List.foldl_append]; rfl
/-! a task's ticks -/
def cntN (f : Nat → Int) (t : Int) (a : Nat) : Nat → Int
  | 0 => 0
  | n + 1 => cntN f t a n + if f (a + n) = t then 1 else 0
theorem cnt_snoc {l : List Sl} {s : Sl} {t : Int} (ht : 0 ≤ t) (h : s.fr ≤ s.to) (hf : ∀ k : Int, s.fr ≤ k → runS l k = -1) (a : Nat) : ∀ n : Nat, cntN (fun k => runS (l ++ [s]) k) t a n = cntN (fun k => runS l k) t a n + if s.task = t then max 0 (min ((a : Int) + (n : Int)) s.to - max (a : Int) s.fr) else 0
  | 0 => by
    simp only [cntN]
    split <;> omega
  | n + 1 => by
    have ih := cnt_snoc (t := t) ht h hf a n
    have e : runS (l ++ [s]) ((a + n : Nat) : Int) = if s.fr ≤ ((a + n : Nat) : Int) ∧ ((a + n : Nat) : Int) < s.to then s.task else runS l ((a + n : Nat) : Int) := runS_snoc l s _
    have e1 : cntN (fun k => runS (l ++ [s]) k) t a (n + 1) = cntN (fun k => runS (l ++ [s]) k) t a n + if runS (l ++ [s]) ((a + n : Nat) : Int) = t then 1 else 0 := rfl
    have e2 : cntN (fun k => runS l k) t a (n + 1) = cntN (fun k => runS l k) t a n + if runS l ((a + n : Nat) : Int) = t then 1 else 0 := rfl
    rw [e1, e2, ih, e]
    by_cases c : s.fr ≤ ((a + n : Nat) : Int) ∧ ((a + n : Nat) : Int) < s.to
    · rw [if_pos c, hf _ c.1]
      by_cases c2 : s.task = t
      · rw [if_pos c2, if_pos c2, if_pos c2, if_neg (by omega)]; omega
      · rw [if_neg c2, if_neg c2, if_neg c2, if_neg (by omega)]
    · rw [if_neg c]
      by_cases c2 : s.task = t
      · rw [if_pos c2, if_pos c2]
        by_cases c3 : runS l ((a + n : Nat) : Int) = t
        · have : ¬ s.fr ≤ ((a + n : Nat) : Int) := fun h => by rw [hf _ h] at c3; omega
          rw [if_pos c3]; omega
        · rw [if_neg c3]; omega
      · rw [if_neg c2, if_neg c2]; omega
/-! the stretches of Until rise, and end where they shall -/
theorem rise_untilK {K : Nat} {T : Int} (hK : 1 ≤ K) (hT : T ≤ 1152921504606846976) : ∀ (f : Nat) (p : Pl), Inv K p → Rise p.now T (untilK T f p).2
  | 0, p, _ => trivial
  | f + 1, p, hI => by
    rw [untilK]
    split
    · trivial
    · rename_i hn
      split
      · trivial
      · rename_i l s due e
        obtain ⟨k, x, r, ws, ok⟩ := str_some hI.ln hK (by omega) e
        obtain ⟨c1, c2, c3⟩ := cutS_to (due := due) (ok.fr2 (by omega)) ok.to0
        have i2 := inv_done ok hI.n0 (cutS_fr T due s).2 (cutS_fr T due s).1 rfl c1 c2 (by omega)
        have f1 := (cutS_fr T due s).1
        have f0 := ok.fr0
        exact ⟨by omega, by omega, c3, rise_untilK hK hT f _ i2⟩
theorem now_is {K : Nat} {T : Int} (hK : 1 ≤ K) (hT : T ≤ 1152921504606846976) : ∀ (f : Nat) (p : Pl), Inv K p → p.now ≤ T → T - p.now ≤ f → (untilK T f p).1.now = T
  | 0, p, _, h1, h2 => by simp only [untilK]; omega
  | f + 1, p, hI, h1, h2 => by
    rw [untilK]
    split
    · simp only; omega
    · rename_i hn
      split
      · rfl
      · rename_i l s due e
        obtain ⟨k, x, r, ws, ok⟩ := str_some hI.ln hK (by omega) e
        obtain ⟨c1, c2, c3⟩ := cutS_to (due := due) (ok.fr2 (by omega)) ok.to0
        have i2 := inv_done ok hI.n0 (cutS_fr T due s).2 (cutS_fr T due s).1 rfl c1 c2 (by omega)
        have f0 := ok.fr0
        have e2 : (doneP l (cutS T due s)).now = (cutS T due s).to := rfl
        exact now_is hK hT f _ i2 (by omega) (by omega)
/-! the load does not outgrow what it may be -/
theorem loadS_ok {H U : Nat} {nd : Nat × Nat} {t : Tk} (hH : H ≤ 1000) (h0 : 0 < H) (hd : 0 < nd.2) (hdH : nd.2 ∣ H) (heH : t.ev.toNat ∣ H) (hlg : t.lg.toNat ≤ t.ev.toNat) (h : nd.1 * H = nd.2 * U) (hU : U ≤ 1000000) : ∃ nd', loadS nd t = some nd' ∧ nd'.2 ∣ H := by
  obtain ⟨n, d⟩ := nd
  simp only at hd hdH h
  obtain ⟨g, p, q, hg, g0, hp, hq⟩ := gcd_split d t.ev.toNat hd
  have ed : d / g = p := by rw [hp]; exact Nat.mul_div_cancel_left p g0
  have ee : t.ev.toNat / g = q := by rw [hq]; exact Nat.mul_div_cancel_left q g0
  have dle := Nat.le_of_dvd h0 hdH
  have ele := Nat.le_of_dvd h0 heH
  have nle : n ≤ U := by
    have : n * H ≤ U * H := by rw [h, Nat.mul_comm U]; exact Nat.mul_le_mul_right _ dle
    exact Nat.le_of_mul_le_mul_right this h0
  have ple : p ≤ 1000 := by have : p ≤ g * p := Nat.le_mul_of_pos_left p g0; omega
  have qle : q ≤ 1000 := by have : q ≤ g * q := Nat.le_mul_of_pos_left q g0; omega
  have b1 : p * t.ev.toNat ≤ 1000 * 1000 := Nat.mul_le_mul ple (by omega)
  have b2 : n * q ≤ 1000000 * 1000 := Nat.mul_le_mul (by omega) qle
  have b3 : t.lg.toNat * p ≤ 1000 * 1000 := Nat.mul_le_mul (by omega) ple
  have lc : p * t.ev.toNat ∣ H := by
    have e : Nat.lcm d t.ev.toNat = p * t.ev.toNat := by
      unfold Nat.lcm
      rw [← hg]
      conv => lhs; rw [hp]
      rw [Nat.mul_assoc, Nat.mul_div_cancel_left _ g0]
    rw [← e]; exact Nat.lcm_dvd hdH heH
  unfold loadS BND
  simp only
  rw [← hg, ed, ee, if_neg (by simp only [Bool.or_eq_true, decide_eq_true_eq]; omega)]
  exact ⟨_, rfl, Nat.dvd_trans (Nat.div_dvd_of_dvd (Nat.gcd_dvd_left _ _)) lc⟩
theorem loadK_ok {H : Nat} (hH : H ≤ 1000) (h0 : 0 < H) : ∀ (L : List Tk) (U : Nat) (nd : Nat × Nat), 0 < nd.2 → nd.2 ∣ H → (∀ t ∈ L, 0 < t.ev.toNat ∧ t.ev.toNat ∣ H ∧ t.lg.toNat ≤ t.ev.toNat) → nd.1 * H = nd.2 * U → U + H * L.length ≤ 1000000 → ∃ nd', loadK nd L = some nd'
  | [], _, nd, _, _, _, _, _ => ⟨nd, rfl⟩
  | t :: L, U, nd, hd, hdH, hL, h, hU => by
    obtain ⟨t0, t1, t2⟩ := hL t (by simp)
    rw [List.length_cons, Nat.mul_add, Nat.mul_one] at hU
    obtain ⟨nd1, e1, e2⟩ := loadS_ok hH h0 hd hdH t1 t2 h (by omega)
    obtain ⟨a1, a2⟩ := loadS_eq hd t0 t1 h e1
    have v : t.lg.toNat * (H / t.ev.toNat) ≤ H := Nat.le_trans (Nat.mul_le_mul_right _ t2) (by rw [Nat.mul_div_cancel' t1]; exact Nat.le_refl _)
    obtain ⟨nd', e3⟩ := loadK_ok hH h0 L _ nd1 a1 e2 (fun x hx => hL x (by simp [hx])) a2 (by omega)
    exact ⟨nd', by rw [loadK, e1]; exact e3⟩
theorem load_pos {H : Nat} (hH : H ≤ 1000) (h0 : 0 < H) {L : List Tk} (hl : L.length ≤ 100) (hL : ∀ t ∈ L, 0 < t.ev.toNat ∧ t.ev.toNat ∣ H ∧ t.lg.toNat ≤ t.ev.toNat) : 0 < (loadF L).2 := by
  obtain ⟨nd, e⟩ := loadK_ok hH h0 L 0 (0, 1) (by decide) (Nat.one_dvd _) hL (by simp) (by have := Nat.mul_le_mul hH hl; omega)
  have := (loadK_eq (H := H) L 0 (0, 1) nd (by decide) (fun t ht => ⟨(hL t ht).1, (hL t ht).2.1⟩) (by simp) e).1
  unfold loadF; rw [e]; exact this
end Pn
