import Derived.Test.YtgdkmakmdomdbaaPnRy
set_option autoImplicit false
namespace Pn
theorem rise_from {a a' e : Int} (h : a' ≤ a) : ∀ {l : List Sl}, Rise a e l → Rise a' e l
  | [], _ => trivial
  | s :: l, ⟨h1, h2, h3, h4⟩ => ⟨by omega, h2, h3, h4⟩
theorem rise_append {b c : Int} (hb : b ≤ c) : ∀ {A : List Sl} {a : Int} {B : List Sl}, a ≤ b → Rise a b A → Rise b c B → Rise a c (A ++ B)
  | [], a, B, h, _, h2 => rise_from h h2
  | s :: A, a, B, h, ⟨h1, h2, h3, h4⟩, h5 => ⟨h1, h2, by omega, rise_append hb h3 h4 h5⟩
theorem task_untilK {K : Nat} {T : Int} (hK : 1 ≤ K) (hT : T ≤ 1152921504606846976) : ∀ (f : Nat) (p : Pl), Inv K p → ∀ s ∈ (untilK T f p).2, 0 ≤ s.task ∧ s.task < p.l.length
  | 0, p, _, s, hs => by simp [untilK] at hs
  | f + 1, p, hI, s', hs => by
    rw [untilK] at hs
    split at hs
    · simp at hs
    · rename_i hn
      split at hs
      · simp at hs
      · rename_i l s due e
        obtain ⟨k, x, r, ws, ok⟩ := str_some hI.ln hK (by omega) e
        obtain ⟨c1, c2, c3⟩ := cutS_to (due := due) (ok.fr2 (by omega)) ok.to0
        have i2 := inv_done ok hI.n0 (cutS_fr T due s).2 (cutS_fr T due s).1 rfl c1 c2 (by omega)
        have ll := len_str p.l p.now T
        rw [e] at ll
        simp only at ll
        have kl := (List.getElem?_eq_some_iff.1 ok.hx).1
        rcases List.mem_cons.1 hs with rfl | hs
        · rw [(cutS_fr T due s).2, ok.tk]; omega
        · have := task_untilK hK hT f _ i2 s' hs
          simp only [doneP, setL_len] at this; omega
theorem nr_untilK {K : Nat} {T : Int} (hK : 1 ≤ K) (hT : T ≤ 1152921504606846976) : ∀ (f : Nat) (p : Pl), Inv K p → Nr p → Nr (untilK T f p).1
  | 0, p, _, h => h
  | f + 1, p, hI, h => by
    rw [untilK]
    split
    · exact h
    · rename_i hn
      split
      · rename_i l e
        unfold strL at e
        split at e
        · split at e
          · cases e
            intro x hx
            obtain ⟨y, hy, rfl⟩ := List.mem_map.1 hx
            exact nrm_mono (nrm_rel (h y hy) (hI.ln y hy).ev1 (Int.le_refl _)) (by simp only; omega)
          · cases e
        · cases e
      · rename_i l s due e
        obtain ⟨k, x, r, ws, ok⟩ := str_some hI.ln hK (by omega) e
        obtain ⟨c1, c2, c3⟩ := cutS_to (due := due) (ok.fr2 (by omega)) ok.to0
        have i2 := inv_done ok hI.n0 (cutS_fr T due s).2 (cutS_fr T due s).1 rfl c1 c2 (by omega)
        have hn2 := nr_str h hI hK (by omega) e
        refine nr_untilK hK hT f _ i2 ?_
        rw [doneP_cut ok T]
        exact nr_run ok hn2 c1 c2
theorem runF_append (r0 : Int) (A B : List Sl) (k : Int) : runF r0 (A ++ B) k = runF (runF r0 A k) B k := by unfold runF; rw [List.foldl_append]
/-- what has been told so far, in several goes -/
structure RwI (F : List Tk) (last at_ : Int) (st : Pl) (parts : List Sl) : Prop where
  now : st.now = at_
  le : at_ ≤ last
  inv : Inv 1 st
  nr : Nr st
  rise : Rise 0 at_ parts
  run : ∀ k, runS (untilP (newP F) last).2 k = runS (parts ++ (untX last st).2) k
theorem untilP_is {p : Pl} {T : Int} (hI : Inv 1 p) (hT : T ≤ 1152921504606846976) (h : T - p.now ≤ 65536) : untilP p T = untX T p := by
  unfold untilP
  rw [show min T FAR = T by unfold FAR; omega]
  exact untX_is (Nat.le_refl 1) hT p hI 65536 h
theorem rwi_new {F : List Tk} {last : Int} (h : newE F = 0) (h0 : 0 ≤ last) (h1 : last ≤ 1000) : RwI F last 0 (newP F) [] := by
  have I := inv_new h
  refine ⟨rfl, h0, I, nr_new h, trivial, fun k => ?_⟩
  rw [untilP_is I (by omega) (by unfold newP; simp only; omega)]; rfl
theorem rwi_step {F : List Tk} {last a t : Int} {st : Pl} {parts : List Sl} (h : RwI F last a st parts) (h1 : a ≤ t) (h2 : t ≤ last) (h3 : last ≤ 1000) : RwI F last t (untilP st t).1 (parts ++ (untilP st t).2) := by
  have hn := h.now
  have n0 := h.inv.n0
  have u := untilP_is h.inv (show t ≤ 1152921504606846976 by omega) (by omega)
  have f : untX t st = untilK t (t - st.now).toNat st := rfl
  rw [u]
  refine ⟨?_, h2, ?_, ?_, ?_, fun k => ?_⟩
  · rw [f]; exact now_is (Nat.le_refl 1) (by omega) _ _ h.inv (by omega) (by omega)
  · rw [f]; exact inv_untilK (Nat.le_refl 1) (by omega) _ _ h.inv
  · rw [f]; exact nr_untilK (Nat.le_refl 1) (by omega) _ _ h.inv h.nr
  · refine rise_append h1 (by omega) h.rise ?_
    rw [f, ← hn]; exact rise_untilK (Nat.le_refl 1) (by omega) _ _ h.inv
  · rw [h.run k]
    have c := cut_run (Nat.le_refl 1) (show last ≤ 1152921504606846976 by omega) t h2 (t - st.now).toNat st (by omega) (by omega) h.inv h.nr (runF (-1) parts k) k
    have e1 : runS (parts ++ (untX last st).2) k = runF (-1) (parts ++ (untX last st).2) k := rfl
    have e2 : runS (parts ++ (untX t st).2 ++ (untX last (untX t st).1).2) k = runF (-1) (parts ++ (untX t st).2 ++ (untX last (untX t st).1).2) k := rfl
    rw [e1, e2, runF_append, c, List.append_assoc, runF_append (-1)]
theorem rwi_end {F : List Tk} {last : Int} {st : Pl} {parts : List Sl} (h : RwI F last last st parts) : ∀ k, runS (untilP (newP F) last).2 k = runS parts k := fun k => by
  rw [h.run k, untX_end (by rw [h.now]; exact Int.le_refl _), List.append_nil]
theorem rise_len {e : Int} : ∀ {l : List Sl} {a : Int}, a ≤ e → Rise a e l → (l.length : Int) ≤ e - a
  | [], a, h, _ => by simp; omega
  | s :: l, a, h, ⟨h1, h2, h3, h4⟩ => by have := rise_len h3 h4; simp only [List.length_cons]; omega
theorem rise_untilP {p : Pl} {T : Int} (hI : Inv 1 p) (hT : T ≤ 1152921504606846976) : Rise p.now T (untilP p T).2 := by
  unfold untilP
  rw [show min T FAR = T by unfold FAR; omega]
  exact rise_untilK (Nat.le_refl 1) hT 65536 p hI
theorem task_untilP {p : Pl} {T : Int} (hI : Inv 1 p) : ∀ s ∈ (untilP p T).2, 0 ≤ s.task ∧ s.task < p.l.length := task_untilK (Nat.le_refl 1) (by unfold FAR; omega) 65536 p hI
end Pn
