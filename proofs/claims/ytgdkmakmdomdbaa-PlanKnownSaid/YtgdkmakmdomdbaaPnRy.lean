import Derived.Test.YtgdkmakmdomdbaaPnRx
set_option autoImplicit false
namespace Pn
def runF (r0 : Int) (l : List Sl) (k : Int) : Int := l.foldl (fun r s => if s.fr ≤ k ∧ k < s.to then s.task else r) r0
theorem runF_cons (r0 : Int) (s : Sl) (l : List Sl) (k : Int) : runF r0 (s :: l) k = runF (if s.fr ≤ k ∧ k < s.to then s.task else r0) l k := rfl
theorem minK_lim (l : List Ln) {t1 T : Int} (h : t1 ≤ T) : ∀ k, minK l t1 k = min t1 (minK l T k)
  | 0 => by simp only [minK]; omega
  | k + 1 => by
    have ih := minK_lim l h k
    simp only [minK]
    split <;> omega
theorem rel_id {l : List Ln} {T : Int} (h : ∀ x ∈ l, T < x.nx) : rel T l = l := by
  unfold rel
  refine (List.map_congr_left (g := id) fun x hx => relE_no (h x hx)).trans (List.map_id l)
def Nr (p : Pl) : Prop := ∀ x ∈ p.l, Nrm p.now x
/-- the lines of a stretch -/
theorem nr_str {K : Nat} {p : Pl} {l' : List Ln} {lim due : Int} {s : Sl} (h : Nr p) (hI : Inv K p) (hK : 1 ≤ K) (hlim : p.now ≤ lim) (e : strL p.l p.now lim = (l', some (s, due))) : ∀ y ∈ l', Nrm s.fr y := by
  have i1 := rel_inv hI.ln (Int.le_refl p.now) hK
  have n1 := rel_nx (T := p.now) hI.ln
  have r1 : ∀ x ∈ rel p.now p.l, Nrm p.now x := fun x hx => by
    obtain ⟨y, hy, rfl⟩ := List.mem_map.1 hx
    exact nrm_rel (h y hy) (hI.ln y hy).ev1 (Int.le_refl _)
  unfold strL at e
  split at e
  · split at e
    · cases e
    · cases e
      have a1 : p.now ≤ minK (rel p.now p.l) lim p.l.length := minK_ge hlim (fun x hx => Int.le_of_lt (n1 x hx)) _
      intro x hx
      obtain ⟨y, hy, rfl⟩ := List.mem_map.1 hx
      exact nrm_rel (r1 y hy) (i1 y hy).ev1 a1
  · cases e; exact r1
theorem nr_run {K : Nat} {now lim due tz : Int} {l' : List Ln} {s : Sl} {k : Nat} {x : Ln} {r : Rn} {ws : List Rn} (ok : StrOk K now lim l' s due k x r ws) (hn : ∀ y ∈ l', Nrm s.fr y) (h1 : s.fr < tz) (h2 : tz ≤ s.to) : ∀ y ∈ setL l' k (doneL (tz - s.fr)), Nrm tz y := by
  intro y hy
  have mx := List.mem_of_getElem? ok.hx
  have to1 := ok.to1
  rcases setL_mem hy with hy | ⟨x', hx', rfl⟩
  · exact nrm_mono (hn y hy) (by omega)
  · rw [ok.hx] at hx'; cases hx'
    exact nrm_mono (nrm_done (hn x mx) ok.hw (by omega) (ok.ln x mx).ev1) (by omega)
theorem doneP_cut {K : Nat} {now lim due : Int} {l' : List Ln} {s : Sl} {k : Nat} {x : Ln} {r : Rn} {ws : List Rn} (ok : StrOk K now lim l' s due k x r ws) (T : Int) : doneP l' (cutS T due s) = ⟨setL l' k (doneL ((cutS T due s).to - s.fr)), (cutS T due s).to⟩ := by
  unfold doneP
  rw [(cutS_fr T due s).2, (cutS_fr T due s).1, ok.tk]
/-- a first stretch is the same for both ends -/
theorem two_step {K : Nat} {T t1 : Int} (hK : 1 ≤ K) (hT : T ≤ 1152921504606846976) {p : Pl} {l' : List Ln} {s : Sl} {due : Int} (hI : Inv K p) (hN : Nr p) (h1 : p.now < t1) (h2 : t1 < T) (e1 : strL p.l p.now T = (l', some (s, due))) (e2 : strL p.l p.now t1 = (l', some (s, due)))
    (ih : ∀ q, p.now < q.now → q.now ≤ t1 → Inv K q → Nr q → ∀ r0 k, runF r0 (untX T q).2 k = runF r0 ((untX t1 q).2 ++ (untX T (untX t1 q).1).2) k) (r0 k : Int) :
    runF r0 (untX T p).2 k = runF r0 ((untX t1 p).2 ++ (untX T (untX t1 p).1).2) k := by
  obtain ⟨kk, x, r, ws, ok⟩ := str_some hI.ln hK (show p.now ≤ t1 by omega) e2
  obtain ⟨_, _, _, _, ok2⟩ := str_some hI.ln hK (show p.now ≤ T by omega) e1
  have hn := nr_str hN hI hK (by omega) e2
  have f0 := ok.fr0
  have f2 := ok.fr2 h1
  have t0 := ok.to0
  have n0 := hI.n0
  rw [untX_some hK hT hI (by omega) e1, untX_some hK (show t1 ≤ 1152921504606846976 by omega) hI (by omega) e2]
  by_cases c : s.to ≤ t1
  · have c1 : cutS T due s = s := by unfold cutS; rw [if_neg (by omega)]
    have c2 : cutS t1 due s = s := by unfold cutS; rw [if_neg (by omega)]
    rw [c1, c2]
    have dp : doneP l' s = ⟨setL l' kk (doneL (s.to - s.fr)), s.to⟩ := by unfold doneP; rw [ok.tk]
    have iq := inv_done ok n0 rfl rfl rfl t0 (Int.le_refl _) (by omega)
    have nq : Nr (doneP l' s) := by rw [dp]; exact nr_run ok hn t0 (Int.le_refl _)
    have := ih (doneP l' s) (by rw [dp]; simp only; omega) (by rw [dp]; exact c) iq nq
    simp only [List.cons_append, runF_cons]
    exact this _ k
  · have c2 : cutS t1 due s = ⟨s.task, s.fr, t1, decide (due < t1)⟩ := by unfold cutS; rw [if_pos (by omega)]
    have c2t : (cutS t1 due s).to = t1 := by rw [c2]
    have dp2 := doneP_cut ok t1
    rw [c2t] at dp2
    rw [dp2]
    have cs := cut_str ok hn f2 (by omega) T
    have iq : Inv K ⟨setL l' kk (doneL (t1 - s.fr)), t1⟩ := by
      have := inv_done (s' := cutS t1 due s) ok n0 (cutS_fr _ _ _).2 (cutS_fr _ _ _).1 c2t f2 (by omega) (by omega)
      rwa [dp2] at this
    rw [untX_end (T := t1) (p := ⟨setL l' kk (doneL (t1 - s.fr)), t1⟩) (Int.le_refl _)]
    have us := untX_some hK hT iq (by simp only; omega) cs
    rw [us]
    obtain ⟨tz, htz⟩ : ∃ tz, tz = (cutS T due s).to := ⟨_, rfl⟩
    have tz1 : tz = min T s.to := by
      rw [htz]
      by_cases hq : T < s.to
      · rw [cutS, if_pos hq]; show T = min T s.to; omega
      · rw [cutS, if_neg hq]; omega
    have ctz : (cutS T due (⟨kk, t1, s.to, decide (due < s.to)⟩ : Sl)).to = tz := by
      by_cases hq : T < s.to
      · rw [cutS, if_pos (show T < (⟨kk, t1, s.to, decide (due < s.to)⟩ : Sl).to from hq)]; show T = tz; omega
      · rw [cutS, if_neg (show ¬ T < (⟨kk, t1, s.to, decide (due < s.to)⟩ : Sl).to from hq)]; show s.to = tz; omega
    have dpT := doneP_cut ok T
    rw [← htz] at dpT
    have dp3 : doneP (rel t1 (setL l' kk (doneL (t1 - s.fr)))) (cutS T due (⟨kk, t1, s.to, decide (due < s.to)⟩ : Sl)) = ⟨setL (rel t1 (setL l' kk (doneL (t1 - s.fr)))) kk (doneL (tz - t1)), tz⟩ := by
      unfold doneP
      rw [(cutS_fr _ _ _).2, (cutS_fr _ _ _).1, ctz]
    obtain ⟨q1, q2, q3⟩ := cut_eq2 (tz := tz) ok hn f2 (by omega) (by omega)
    have iA : Inv K ⟨setL l' kk (doneL (tz - s.fr)), tz⟩ := by
      have := inv_done (s' := cutS T due s) ok n0 (cutS_fr _ _ _).2 (cutS_fr _ _ _).1 htz.symm (show s.fr < tz by omega) (by omega) (by omega)
      rwa [dpT] at this
    have iB : Inv K ⟨setL (rel t1 (setL l' kk (doneL (t1 - s.fr)))) kk (doneL (tz - t1)), tz⟩ := by
      obtain ⟨k3, x3, r3, ws3, ok3⟩ := str_some iq.ln hK (show t1 ≤ T by omega) cs
      have := inv_done (s' := cutS T due (⟨kk, t1, s.to, decide (due < s.to)⟩ : Sl)) ok3 iq.n0 (cutS_fr _ _ _).2 (cutS_fr _ _ _).1 ctz (show t1 < tz by omega) (show tz ≤ s.to by omega) (by omega)
      rwa [dp3] at this
    have same : (untX T ⟨setL l' kk (doneL (tz - s.fr)), tz⟩).2 = (untX T ⟨setL (rel t1 (setL l' kk (doneL (t1 - s.fr)))) kk (doneL (tz - t1)), tz⟩).2 :=
      untX_congr hK hT iA iB (fun _ => str_congr T (eq2_rel q1 (fun y hy => ⟨q2 y hy, (iA.ln y hy).ev1⟩) (fun y hy => ⟨q3 y hy, (iB.ln y hy).ev1⟩) (Int.le_refl _)) q1.len) Iff.rfl
    rw [dpT, dp3, same]
    simp only [List.cons_append, List.nil_append, runF_cons]
    have g1 := cutS_fr T due s
    have g2 := cutS_fr t1 due s
    have g3 := cutS_fr T due (⟨kk, t1, s.to, decide (due < s.to)⟩ : Sl)
    rw [g1.1, g1.2, g2.1, g2.2, g3.1, g3.2, ← htz, c2t, ctz, ok.tk]
    simp only
    congr 1
    by_cases a : s.fr ≤ k ∧ k < tz
    · rw [if_pos a]
      by_cases b : t1 ≤ k ∧ k < tz
      · rw [if_pos b]
      · rw [if_neg b, if_pos (by omega)]
    · rw [if_neg a, if_neg (by omega), if_neg (by omega)]
theorem cut_run {K : Nat} {T : Int} (hK : 1 ≤ K) (hT : T ≤ 1152921504606846976) (t1 : Int) (ht : t1 ≤ T) : ∀ (n : Nat) (p : Pl), t1 - p.now ≤ n → p.now ≤ t1 → Inv K p → Nr p → ∀ r0 k, runF r0 (untX T p).2 k = runF r0 ((untX t1 p).2 ++ (untX T (untX t1 p).1).2) k
  | 0, p, h, h1, hI, hN, r0, k => by
    rw [untX_end (T := t1) (by omega)]; rfl
  | n + 1, p, h, h1, hI, hN, r0, k => by
    by_cases c : t1 ≤ p.now
    · rw [untX_end (T := t1) c]; rfl
    by_cases c2 : t1 = T
    · subst c2
      have : (untX t1 p).1.now = t1 := now_is hK hT _ p hI h1 (by omega)
      rw [untX_end (p := (untX t1 p).1) (by omega), List.append_nil]
    have IH : ∀ q, p.now < q.now → q.now ≤ t1 → Inv K q → Nr q → ∀ r0 k, runF r0 (untX T q).2 k = runF r0 ((untX t1 q).2 ++ (untX T (untX t1 q).1).2) k := fun q a1 a2 a3 a4 => cut_run hK hT t1 ht n q (by omega) a2 a3 a4
    have i1 := rel_inv hI.ln (Int.le_refl p.now) hK
    have n1 := rel_nx (T := p.now) hI.ln
    by_cases b : (best (rel p.now p.l)).task < 0
    · have ml := minK_lim (rel p.now p.l) ht p.l.length
      by_cases m : minK (rel p.now p.l) T p.l.length < t1
      · have m1 : minK (rel p.now p.l) t1 p.l.length = minK (rel p.now p.l) T p.l.length := by omega
        have e2 : strL p.l p.now t1 = strL p.l p.now T := by
          unfold strL
          rw [if_pos b, if_pos b, m1, if_neg (by omega), if_neg (by omega)]
        obtain ⟨⟨l', o⟩, hs⟩ : ∃ z, strL p.l p.now T = z := ⟨_, rfl⟩
        cases o with
        | none =>
          unfold strL at hs
          rw [if_pos b, if_neg (by omega)] at hs; cases hs
        | some sd => exact two_step hK hT hI hN (by omega) (by omega) hs (e2.trans hs) IH r0 k
      · have m1 : minK (rel p.now p.l) t1 p.l.length = t1 := by omega
        have en : strL p.l p.now t1 = (rel p.now p.l, none) := by unfold strL; rw [if_pos b, m1, if_pos rfl]
        rw [untX_none c en, List.nil_append]
        congr 1
        have hw : ∀ x ∈ rel p.now p.l, x.wt = [] := by
          rcases best_idx (rel p.now p.l) with ⟨_, h⟩ | ⟨i, _, h, _⟩
          · exact h
          · omega
        have iq : Inv K ⟨rel p.now p.l, t1⟩ := ⟨by have := hI.n0; simp only; omega, by simp only; omega, fun x hx => (i1 x hx).mono (by simp only; omega)⟩
        refine untX_congr hK hT hI iq (fun _ => ?_) ⟨fun hh => by omega, fun hh => by simp only at hh; omega⟩
        simp only
        have nxm : ∀ x ∈ rel p.now p.l, t1 ≤ x.nx := fun x hx => by
          have := minK_le_nx (lim := T) hx
          rw [rel_length] at this; omega
        by_cases m2 : t1 < minK (rel p.now p.l) T p.l.length
        · have same : rel t1 (rel p.now p.l) = rel p.now p.l := rel_id fun x hx => by
            have := minK_le_nx (lim := T) hx
            rw [rel_length] at this; omega
          unfold strL
          rw [same, rel_length, if_pos b, if_pos b]
        · have m3 : minK (rel p.now p.l) T p.l.length = t1 := by omega
          have hb := idle_best' (l := rel p.now p.l) (lim := T) (fr := t1) (by rw [rel_length]; exact m3) (by omega)
          conv => lhs; unfold strL
          conv => rhs; unfold strL
          rw [if_pos b, m3, if_neg (by omega), if_neg hb]
    · have e2 : strL p.l p.now t1 = strL p.l p.now T := by
        unfold strL; rw [if_neg b, if_neg b]
      obtain ⟨⟨l', o⟩, hs⟩ : ∃ z, strL p.l p.now T = z := ⟨_, rfl⟩
      cases o with
      | none => unfold strL at hs; rw [if_neg b] at hs; cases hs
      | some sd => exact two_step hK hT hI hN (by omega) (by omega) hs (e2.trans hs) IH r0 k
theorem nr_new {L : List Tk} (h : newE L = 0) : Nr (newP L) := fun x hx => by
  have e := ((inv_new h).ln x hx).ev1
  obtain ⟨t, _, rfl⟩ := List.mem_map.1 hx
  exact ⟨.inl rfl, by simp only [newP] at e ⊢; omega, fun _ => rfl⟩
end Pn
