import Derived.Test.YtgdkmakmdomdbaaPnRw
set_option autoImplicit false
namespace Pn
theorem setL_get2 (l : List Ln) (k : Nat) (f : Ln → Ln) (j : Nat) : (setL l k f)[j]? = if k = j then (l[j]?).map f else l[j]? := setL_get l k f j
/-- the line that runs, cut and released anew -/
theorem cut_line {x : Ln} {r : Rn} {ws : List Rn} {fr t1 : Int} (hn : Nrm fr x) (hw : x.wt = r :: ws) (he : 1 ≤ x.t.ev) (h1 : fr < t1) (hl : 0 < x.lf - (t1 - fr)) :
    ∃ n nx, relL t1 (doneL (t1 - fr) x) = ⟨x.t, nx, [⟨x.t, r.fi, n⟩], x.lf - (t1 - fr)⟩ ∧ r.t = x.t ∧ fO x = r.fi ∧ Nrm t1 (relL t1 (doneL (t1 - fr) x)) := by
  have hd := nrm_done (d := t1 - fr) hn hw (by omega) he
  obtain ⟨q1, q2, q3, _⟩ := pur_done2 (d := t1 - fr) hn.pur hw
  obtain ⟨b1, b2⟩ := q3 hl
  have fe : r.t = x.t ∧ fO x = r.fi ∧ r.fi ≤ fr := by
    rcases hn.pur with h0 | ⟨fi, ct, h0, c1, c2⟩
    · rw [h0] at hw; cases hw
    · have := pur_le he c1 c2 hn.nxn
      have fe : fO x = fi := by unfold fO; rw [h0]
      rw [h0] at hw; cases hw
      exact ⟨rfl, fe, this⟩
  have e := rel_canon hd (by rw [q2]; exact he) (show fr ≤ t1 by omega)
  have hr := nrm_rel hd (by rw [q2]; exact he) (show fr ≤ t1 by omega)
  rw [q2, b1, b2, fe.2.1] at e
  unfold canon at e
  rw [if_pos (by omega)] at e
  exact ⟨_, _, e, fe.1, fe.2.1, hr⟩
theorem cut_str {K : Nat} {now lim due t1 : Int} {l' : List Ln} {s : Sl} {k : Nat} {x : Ln} {r : Rn} {ws : List Rn} (ok : StrOk K now lim l' s due k x r ws) (hn : ∀ y ∈ l', Nrm s.fr y) (h1 : s.fr < t1) (h2 : t1 < s.to) (T : Int) :
    strL (setL l' k (doneL (t1 - s.fr))) t1 T = (rel t1 (setL l' k (doneL (t1 - s.fr))), some (⟨k, t1, s.to, decide (due < s.to)⟩, due)) := by
  have mx := List.mem_of_getElem? ok.hx
  have ix := ok.ln x mx
  have e1 := ix.ev1
  have to1 := ok.to1
  have kl := (List.getElem?_eq_some_iff.1 ok.hx).1
  obtain ⟨n, nx, xe, rt, fe, hx1⟩ := cut_line (hn x mx) ok.hw e1 h1 (by omega)
  have bj := ok.bj
  have bj' : bestK l' l'.length = ⟨due, r.t.rk, k⟩ := bj
  have te := ok.te
  rw [bj] at te
  have get : ∀ i, (rel t1 (setL l' k (doneL (t1 - s.fr))))[i]? = if k = i then (l'[i]?).map (fun y => relL t1 (doneL (t1 - s.fr) y)) else (l'[i]?).map (relL t1) := fun i => by
    unfold rel
    rw [List.getElem?_map, setL_get]
    split
    · rw [Option.map_map]; rfl
    · rfl
  have len : (rel t1 (setL l' k (doneL (t1 - s.fr)))).length = l'.length := by rw [rel_length, setL_len]
  have gk : (rel t1 (setL l' k (doneL (t1 - s.fr))))[k]? = some ⟨x.t, nx, [⟨x.t, r.fi, n⟩], x.lf - (t1 - s.fr)⟩ := by
    rw [get, if_pos rfl, ok.hx]; simp only [Option.map_some]; rw [xe]
  have du := ok.du
  have nob : ∀ (i : Nat) y, l'[i]? = some y → y.wt = [] → y.nx ≤ t1 → bef ⟨y.nx + y.t.ev, y.t.rk, i⟩ ⟨due, r.t.rk, k⟩ = true → False := fun i y hy hw hnx hb => by
    have := toK_cut2 (to := s.fr + x.lf) _ (Nat.le_refl _) i (List.getElem?_eq_some_iff.1 hy).1 y hy hw hb
    omega
  generalize hl1 : rel t1 (setL l' k (doneL (t1 - s.fr))) = l1 at get len gk
  have hb : best l1 = ⟨due, r.t.rk, k⟩ := by
    have := best_char (l := l1) gk rfl (fun i y1 r' ws' hy1 hw1 => by
      rw [get] at hy1
      by_cases ki : k = i
      · subst ki
        rw [if_pos rfl, ok.hx] at hy1
        simp only [Option.map_some, Option.some.injEq] at hy1
        rw [xe] at hy1
        subst hy1
        cases hw1
        rw [bef_iff]; simp
      · rw [if_neg ki, Option.map_eq_some_iff] at hy1
        obtain ⟨y, hy, rfl⟩ := hy1
        have my := List.mem_of_getElem? hy
        have ny := hn y my
        have ey := (ok.ln y my).ev1
        have ce := rel_canon ny ey (show s.fr ≤ t1 by omega)
        rw [ce] at hw1
        unfold canon at hw1
        by_cases c : fO y ≤ t1
        · rw [if_pos c] at hw1
          cases hw1
          intro hb
          rcases ny.pur with h0 | ⟨fi, ct, h0, c1, c2⟩
          · have fy : fO y = y.nx := by unfold fO; rw [h0]
            rw [fy] at hb c
            exact nob i y hy h0 c (by rw [du, ← rt] at *; exact hb)
          · have fy : fO y = fi := by unfold fO; rw [h0]
            rw [fy] at hb
            refine bestK_min2 l' _ (Nat.le_refl _) i (List.getElem?_eq_some_iff.1 hy).1 y _ _ hy h0 ?_
            rw [bj']
            simp only
            rw [du, ← rt] at *; exact hb
        · rw [if_neg c] at hw1; cases hw1)
    simp only at this
    rw [this, du, ← rt]
  have hto : toOf l1 ⟨due, r.t.rk, k⟩ t1 = s.to := by
    unfold toOf lfAt
    simp only [Int.toNat_natCast, gk]
    rw [show t1 + (x.lf - (t1 - s.fr)) = s.fr + x.lf by omega, te, len]
    rw [toK_congr len (fun i y1 y hy1 hy a => ?_) _ (Nat.le_of_eq len.symm)]
    rw [get] at hy1
    by_cases ki : k = i
    · subst ki
      rw [if_pos rfl, ok.hx] at hy1
      rw [ok.hx] at hy
      simp only [Option.map_some, Option.some.injEq] at hy1 hy
      rw [xe] at hy1
      subst hy1; subst hy
      unfold tstep; rw [ok.hw]; rfl
    · rw [if_neg ki, hy] at hy1
      simp only [Option.map_some, Option.some.injEq] at hy1
      subst hy1
      by_cases c : t1 < y.nx
      · rw [relE_no c]
      · have my := List.mem_of_getElem? hy
        have w1 : (relL t1 y).wt.isEmpty = false := by
          rw [rel_canon (hn y my) (ok.ln y my).ev1 (show s.fr ≤ t1 by omega)]
          unfold canon
          rw [if_pos]
          · rfl
          · rcases (hn y my).pur with h0 | ⟨fi, ct, h0, c1, c2⟩
            · have fy : fO y = y.nx := by unfold fO; rw [h0]
              omega
            · have fy : fO y = fi := by unfold fO; rw [h0]
              have := pur_le (ok.ln y my).ev1 c1 c2 (hn y my).nxn
              omega
        unfold tstep
        rw [w1]
        simp only [Bool.false_and, Bool.false_eq_true, if_false]
        by_cases c3 : y.wt = []
        · have : bef ⟨y.nx + y.t.ev, y.t.rk, i⟩ ⟨due, r.t.rk, k⟩ = false := by
            rw [Bool.eq_false_iff]; exact fun hb => nob i y hy c3 (by omega) hb
          rw [this]; simp
        · have : y.wt.isEmpty = false := by cases hq : y.wt with
            | nil => exact absurd hq c3
            | cons a b => rfl
          rw [this]; simp
  unfold strL
  rw [hl1, hb]
  simp only
  rw [if_neg (by omega)]
  unfold slOf
  simp only
  rw [hto]
theorem cut_eq2 {K : Nat} {now lim due t1 tz : Int} {l' : List Ln} {s : Sl} {k : Nat} {x : Ln} {r : Rn} {ws : List Rn} (ok : StrOk K now lim l' s due k x r ws) (hn : ∀ y ∈ l', Nrm s.fr y) (h1 : s.fr < t1) (h2 : t1 < tz) (h3 : tz ≤ s.to) :
    Eq2 ⟨setL l' k (doneL (tz - s.fr)), tz⟩ ⟨setL (rel t1 (setL l' k (doneL (t1 - s.fr)))) k (doneL (tz - t1)), tz⟩ ∧ (∀ y ∈ setL l' k (doneL (tz - s.fr)), Nrm tz y) ∧ ∀ y ∈ setL (rel t1 (setL l' k (doneL (t1 - s.fr)))) k (doneL (tz - t1)), Nrm tz y := by
  have mx := List.mem_of_getElem? ok.hx
  have ix := ok.ln x mx
  have e1 := ix.ev1
  have to1 := ok.to1
  obtain ⟨n, nx, xe, rt, fe, hx1⟩ := cut_line (hn x mx) ok.hw e1 h1 (by omega)
  refine ⟨⟨rfl, by simp [setL_len, rel_length], fun i a b ha hb => ?_⟩, fun y hy => ?_, fun y hy => ?_⟩
  · simp only at ha hb
    rw [setL_get] at ha hb
    unfold rel at hb
    rw [List.getElem?_map, setL_get] at hb
    by_cases ki : k = i
    · subst ki
      rw [if_pos rfl, ok.hx] at ha
      rw [if_pos rfl, if_pos rfl, ok.hx] at hb
      simp only [Option.map_some, Option.some.injEq] at ha hb
      subst ha; subst hb
      obtain ⟨_, a2, a3, a4⟩ := pur_done2 (d := tz - s.fr) (hn x mx).pur ok.hw
      have xw : (relL t1 (doneL (t1 - s.fr) x)).wt = ⟨x.t, r.fi, n⟩ :: [] := by rw [xe]
      obtain ⟨_, b2, b3, b4⟩ := pur_done2 (d := tz - t1) hx1.pur xw
      have xt : (relL t1 (doneL (t1 - s.fr) x)).t = x.t := by rw [xe]
      have xf : fO (relL t1 (doneL (t1 - s.fr) x)) = fO x := by rw [xe, fe]; rfl
      have xl : (relL t1 (doneL (t1 - s.fr) x)).lf = x.lf - (t1 - s.fr) := by rw [xe]
      rw [xt] at b2 b4
      rw [xf] at b3 b4
      rw [xl] at b3 b4
      refine ⟨by rw [a2, b2], ?_⟩
      by_cases c : 0 < x.lf - (tz - s.fr)
      · obtain ⟨c1, c2⟩ := a3 c
        obtain ⟨c3, c4⟩ := b3 (by omega)
        rw [c1, c2, c3, c4]; exact ⟨rfl, by omega⟩
      · obtain ⟨c1, c2⟩ := a4 c
        obtain ⟨c3, c4⟩ := b4 (by omega)
        rw [c1, c2, c3, c4]; exact ⟨rfl, rfl⟩
    · rw [if_neg ki] at ha
      rw [if_neg ki, if_neg ki, ha] at hb
      simp only [Option.map_some, Option.some.injEq] at hb
      subst hb
      have ma := List.mem_of_getElem? ha
      obtain ⟨_, c1, c2, c3⟩ := pur_rel t1 (hn a ma).pur (ok.ln a ma).ev1
      exact ⟨c3.symm, c1.symm, c2.symm⟩
  · rcases setL_mem hy with hy | ⟨x', hx', rfl⟩
    · exact nrm_mono (hn y hy) (by omega)
    · rw [ok.hx] at hx'; cases hx'
      exact nrm_mono (nrm_done (hn x mx) ok.hw (by omega) e1) (by omega)
  · rcases setL_mem hy with hy | ⟨x', hx', rfl⟩
    · obtain ⟨z, hz, rfl⟩ := List.mem_map.1 hy
      rcases setL_mem hz with hz | ⟨x', hx', rfl⟩
      · exact nrm_mono (nrm_rel (hn z hz) (ok.ln z hz).ev1 (show s.fr ≤ t1 by omega)) (by omega)
      · rw [ok.hx] at hx'; cases hx'
        exact nrm_mono hx1 (by omega)
    · unfold rel at hx'
      rw [List.getElem?_map, setL_get, if_pos rfl, ok.hx] at hx'
      simp only [Option.map_some, Option.some.injEq] at hx'
      subst hx'
      have xw : (relL t1 (doneL (t1 - s.fr) x)).wt = ⟨x.t, r.fi, n⟩ :: [] := by rw [xe]
      have xl : (relL t1 (doneL (t1 - s.fr) x)).lf = x.lf - (t1 - s.fr) := by rw [xe]
      have xt : (relL t1 (doneL (t1 - s.fr) x)).t = x.t := by rw [xe]
      exact nrm_mono (nrm_done hx1 xw (by rw [xl]; omega) (by rw [xt]; exact e1)) (by omega)
end Pn
