import Derived.Test.YtgdkmakmdomdbaaPnJ
set_option autoImplicit false
namespace Pn
theorem Inv.mono {K K' : Nat} {p : Pl} (h : Inv K p) (hK : K ≤ K') : Inv K' p :=
  ⟨h.n0, h.n1, fun x hx => let q := h.ln x hx; ⟨q.ev1, q.ev2, q.lg1, q.lg2, q.nx0, q.nx1, q.lf0, q.lf1, q.lfp, Nat.le_trans q.wm hK, q.rn⟩⟩
theorem newE_ok {L : List Tk} (h : newE L = 0) : L.length ≤ 256 ∧ ∀ t ∈ L, mayT t = true := by
  unfold newE at h
  split at h
  · omega
  · split at h
    · rename_i h1 h2
      exact ⟨by omega, fun t ht => by rw [List.all_eq_true] at h2; exact h2 t ht⟩
    · omega
theorem inv_new {L : List Tk} (h : newE L = 0) : Inv 1 (newP L) := by
  obtain ⟨_, h2⟩ := newE_ok h
  refine ⟨Int.le_refl _, by unfold newP; simp only; omega, fun x hx => ?_⟩
  obtain ⟨t, ht, rfl⟩ := List.mem_map.1 hx
  obtain ⟨a, b, c, d⟩ := mayT_iff.1 (h2 t ht)
  exact ⟨a, b, c, d, Int.le_refl _, by simp only [newP]; omega, Int.le_refl _, by simp only; omega, fun e => absurd rfl e, by unfold mW; simp, fun r hr => by simp at hr⟩
theorem inv_done {K : Nat} {now lim due tz : Int} {l' : List Ln} {s : Sl} {k : Nat} {x : Ln} {r : Rn} {ws : List Rn} {s' : Sl} (h : StrOk K now lim l' s due k x r ws) (n0 : 0 ≤ now) (hs : s'.task = s.task) (hf : s'.fr = s.fr) (ht : s'.to = tz) (h1 : s.fr < tz) (h2 : tz ≤ s.to) (h3 : tz ≤ 1152921504606846976) : Inv K (doneP l' s') := by
  have f0 := h.fr0
  refine ⟨by simp only [doneP]; omega, by simp only [doneP]; omega, ?_⟩
  have := h.done h1 h2
  simp only [doneP]
  rw [hs, h.tk, hf, ht]
  exact this
theorem inv_untilK {K : Nat} {T : Int} (hK : 1 ≤ K) (hT : T ≤ 1152921504606846976) : ∀ (f : Nat) (p : Pl), Inv K p → Inv K (untilK T f p).1
  | 0, p, h => h
  | f + 1, p, h => by
    rw [untilK]
    split
    · exact h
    · rename_i hn
      split
      · rename_i l e
        exact ⟨by have := h.n0; simp only; omega, hT, fun x hx => (str_none_inv h.ln hK e x hx).mono (by simp only; omega)⟩
      · rename_i l s due e
        obtain ⟨k, x, r, ws, ok⟩ := str_some h.ln hK (by omega) e
        obtain ⟨c1, c2, c3⟩ := cutS_to (due := due) (ok.fr2 (by omega)) ok.to0
        exact inv_untilK hK hT f _ (inv_done ok h.n0 (cutS_fr _ _ _).2 (cutS_fr _ _ _).1 rfl c1 c2 (by omega))
theorem inv_until {K : Nat} {p : Pl} {T : Int} (hK : 1 ≤ K) (h : Inv K p) : Inv K (untilP p T).1 := inv_untilK hK (by unfold FAR; omega) _ p h
theorem inv_next {K : Nat} {p : Pl} (hK : 1 ≤ K) (h : Inv K p) : Inv K (nextP p).1 := by
  unfold nextP
  split
  · exact h
  · split
    · exact h
    · rename_i l s due e
      split
      · exact h
      · rename_i hf
        have n1 := h.n1
        obtain ⟨k, x, r, ws, ok⟩ := str_some h.ln hK (show p.now ≤ FAR by unfold FAR; exact n1) e
        exact inv_done ok h.n0 rfl rfl rfl ok.to0 (Int.le_refl _) (by unfold FAR at hf; omega)
theorem InL.setT {K : Nat} {now : Int} {x : Ln} {t : Tk} (h : InL K now x) (ht : mayT t = true) : InL (K + 1) now { x with t := t } := by
  obtain ⟨a, b, c, d⟩ := mayT_iff.1 ht
  refine ⟨a, b, c, d, h.nx0, h.nx1, h.lf0, h.lf1, h.lfp, ?_, h.rn⟩
  have := h.wm
  unfold mW at this ⊢
  simp only
  split
  · split at this <;> omega
  · split <;> omega
theorem inv_set {K : Nat} {p : Pl} {i : Int} {t : Tk} (hK : 1 ≤ K) (h : Inv K p) : Inv (K + 1) (setP p i t).1 := by
  unfold setP
  split
  · exact h.mono (Nat.le_succ _)
  · rename_i hc
    simp only [Bool.or_eq_true, decide_eq_true_eq, Bool.not_eq_true', not_or, Bool.not_eq_false] at hc
    refine ⟨h.n0, h.n1, fun x hx => ?_⟩
    have hi : i = ((i.toNat : Nat) : Int) := by omega
    simp only at hx
    rw [hi] at hx
    have il := rel_inv h.ln (Int.le_refl _) hK
    rcases setL_mem hx with hx | ⟨y, hy, rfl⟩
    · have q := il x hx
      exact ⟨q.ev1, q.ev2, q.lg1, q.lg2, q.nx0, q.nx1, q.lf0, q.lf1, q.lfp, Nat.le_trans q.wm (Nat.le_succ _), q.rn⟩
    · exact (il y (List.mem_of_getElem? hy)).setT hc.2
theorem len_untilK (T : Int) : ∀ (f : Nat) (p : Pl), (untilK T f p).1.l.length = p.l.length
  | 0, p => rfl
  | f + 1, p => by
    have strl : ∀ l now lim, (strL l now lim).1.length = l.length := fun l now lim => by
      unfold strL; split
      · split <;> simp [rel_length]
      · simp [rel_length]
    rw [untilK]
    split
    · rfl
    · split
      · rename_i l e
        have := strl p.l p.now T
        rw [e] at this; exact this
      · rename_i l s due e
        rw [len_untilK T f]
        have := strl p.l p.now T
        rw [e] at this
        simp only [doneP, setL_len]; exact this
theorem len_until (p : Pl) (T : Int) : (untilP p T).1.l.length = p.l.length := len_untilK _ _ p
/-! the numbers of wakes -/
def W0 : Pl := newP [⟨4, 1, 0⟩, ⟨6, 2, 0⟩]
def W1 : Pl := (nextP W0).1
def W2 : Pl := (untilP W1 7).1
def W3 : Pl := (setP W2 0 ⟨9, 2, 0⟩).1
end Pn
