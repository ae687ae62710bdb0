import Derived.Test.YtgdkmakmdomdbaaPnRu
set_option autoImplicit false
namespace Pn
/-! each task has its share -/
theorem pur_done2 {x : Ln} {r : Rn} {ws : List Rn} {d : Int} (h : Pur x) (hw : x.wt = r :: ws) : (doneL d x).nx = x.nx ∧ (doneL d x).t = x.t ∧ (0 < x.lf - d → fO (doneL d x) = fO x ∧ lO (doneL d x) = x.lf - d) ∧ (¬ 0 < x.lf - d → fO (doneL d x) = fO x + x.t.ev ∧ lO (doneL d x) = x.t.lg) := by
  rcases h with h0 | ⟨fi, ct, h0, h1, h2⟩
  · rw [h0] at hw; cases hw
  rw [h0] at hw; cases hw
  have hfO : fO x = fi := by unfold fO; rw [h0]
  by_cases hp : 0 < x.lf - d
  · have e : doneL d x = { x with lf := x.lf - d } := by unfold doneL; rw [if_pos hp]
    rw [e]
    refine ⟨rfl, rfl, fun _ => ⟨?_, ?_⟩, fun h => absurd hp h⟩
    · unfold fO; simp only [h0]
    · unfold lO; simp only [h0]
  · by_cases hc : ct - 1 = 0
    · have e : doneL d x = { x with wt := [], lf := x.lf - d } := by unfold doneL; rw [if_neg hp, h0, popW_cons, if_pos hc]
      rw [e]
      have hn : x.nx = fi + x.t.ev := by have : ct = 1 := by omega
                                         rw [this, Int.one_mul] at h1; omega
      refine ⟨rfl, rfl, fun h => absurd h hp, fun _ => ⟨?_, rfl⟩⟩
      rw [hfO]; exact hn
    · have e : doneL d x = { x with wt := [⟨x.t, fi + x.t.ev, ct - 1⟩], lf := x.t.lg } := by unfold doneL; rw [if_neg hp, h0, popW_cons, if_neg hc]
      rw [e]
      refine ⟨rfl, rfl, fun h => absurd h hp, fun _ => ⟨?_, rfl⟩⟩
      rw [hfO]; rfl
def shr (x : Ln) (a : Int) : Int := if a < fO x then x.t.lg else if a = fO x then x.t.lg - lO x else 0
structure Shr (p : Pl) (outs : List Sl) : Prop where
  nxn : ∀ x ∈ p.l, x.nx ≤ p.now + x.t.ev
  fo : ∀ x ∈ p.l, 0 ≤ fO x ∧ x.t.ev ∣ fO x ∧ lO x ≤ x.t.lg
  free : ∀ k : Int, p.now ≤ k → runS outs k = -1
  ct : ∀ (i : Nat) x, p.l[i]? = some x → ∀ m : Nat, cntN (fun k => runS outs k) i (m * x.t.ev.toNat) x.t.ev.toNat = shr x ((m * x.t.ev.toNat : Nat) : Int)
theorem shr_rel {x : Ln} (T a : Int) (h : Pur x) (he : 1 ≤ x.t.ev) : shr (relL T x) a = shr x a := by
  obtain ⟨_, h1, h2, h3⟩ := pur_rel T h he
  unfold shr; rw [h1, h2, h3]
theorem nx_rel {x : Ln} {now T : Int} (hT : now ≤ T) (he : 1 ≤ x.t.ev) (h : x.nx ≤ now + x.t.ev) : (relL T x).nx ≤ T + x.t.ev := by
  by_cases hg : T < x.nx
  · rw [relE_no hg]; omega
  · have := (relN_bd hg he).2.1
    unfold relL; rw [if_neg hg]; simp only; omega
theorem Shr.rel {K : Nat} {p : Pl} {outs : List Sl} {T : Int} (h : Shr p outs) (hp : ∀ x ∈ p.l, Pur x) (hi : ∀ x ∈ p.l, InL K p.now x) (hT : p.now ≤ T) : Shr ⟨rel T p.l, T⟩ outs := by
  refine ⟨fun x hx => ?_, fun x hx => ?_, fun k hk => h.free k (by simp only at hk; omega), fun i x hx m => ?_⟩
  · obtain ⟨y, hy, rfl⟩ := List.mem_map.1 hx
    have e := (hi y hy).ev1
    rw [(pur_rel T (hp y hy) e).2.2.2]
    exact nx_rel hT e (h.nxn y hy)
  · obtain ⟨y, hy, rfl⟩ := List.mem_map.1 hx
    obtain ⟨_, h1, h2, h3⟩ := pur_rel T (hp y hy) (hi y hy).ev1
    rw [h1, h2, h3]; exact h.fo y hy
  · simp only [Pn.rel, List.getElem?_map, Option.map_eq_some_iff] at hx
    obtain ⟨y, hy, rfl⟩ := hx
    have my := List.mem_of_getElem? hy
    have e := (hi y my).ev1
    rw [shr_rel T _ (hp y my) e, (pur_rel T (hp y my) e).2.2.2]
    exact h.ct i y hy m
theorem Shr.str {K : Nat} {p : Pl} {l' : List Ln} {outs : List Sl} {lim due : Int} {s : Sl} (h : Shr p outs) (hE : Edf p) (hI : Inv K p) (hK : 1 ≤ K) (hlim : p.now ≤ lim) (e : strL p.l p.now lim = (l', some (s, due))) : Shr ⟨l', s.fr⟩ outs := by
  have i1 := rel_inv hI.ln (Int.le_refl p.now) hK
  have n1 := rel_nx (T := p.now) hI.ln
  have h1 := h.rel hE.pur hI.ln (Int.le_refl _)
  have p1 : ∀ x ∈ Pn.rel p.now p.l, Pur x := fun x hx => by
    obtain ⟨y, hy, rfl⟩ := List.mem_map.1 hx
    exact (pur_rel p.now (hE.pur y hy) (hI.ln y hy).ev1).1
  unfold strL at e
  split at e
  · split at e
    · cases e
    · cases e
      have a1 : p.now ≤ minK (Pn.rel p.now p.l) lim p.l.length := minK_ge hlim (fun x hx => Int.le_of_lt (n1 x hx)) _
      exact Shr.rel (p := ⟨Pn.rel p.now p.l, p.now⟩) h1 p1 i1 a1
  · cases e; exact h1
theorem dvd_gap {a b e : Int} (ha : e ∣ a) (hb : e ∣ b) (h : a < b) : a + e ≤ b := by
  have := Int.le_of_dvd (by omega) (Int.dvd_sub hb ha)
  omega
theorem Shr.run {K : Nat} {now lim due tz : Int} {l' : List Ln} {s s' : Sl} {k : Nat} {x : Ln} {r : Rn} {ws : List Rn} {outs : List Sl} (h : Shr ⟨l', s.fr⟩ outs) (hE : Edf ⟨l', s.fr⟩) (ok : StrOk K now lim l' s due k x r ws) (h1 : s.fr < tz) (h2 : tz ≤ s.to)
    (g1 : s'.task = (k : Int)) (g2 : s'.fr = s.fr) (g3 : s'.to = tz) : Shr ⟨setL l' k (doneL (tz - s.fr)), tz⟩ (outs ++ [s']) := by
  have hx := List.mem_of_getElem? ok.hx
  have ix := ok.ln x hx
  have t1 := ok.to1
  have dd := edf_due hE ok
  obtain ⟨q1, q2, q3, q4⟩ := pur_done2 (d := tz - s.fr) (hE.pur x hx) ok.hw
  have fx := h.fo x hx
  have nx := h.nxn x hx
  simp only at nx
  have lfx : lO x = x.lf := by unfold lO; rw [ok.hw]
  have fdue : due = fO x + x.t.ev ∧ fO x ≤ s.fr := by
    rcases hE.pur x hx with h0 | ⟨fi, ct, h0, c1, c2⟩
    · rw [ok.hw] at h0; cases h0
    · have hw := ok.hw
      rw [h0] at hw; cases hw
      have du : due = fi + x.t.ev := ok.du
      have fe : fO x = fi := by unfold fO; rw [h0]
      have : x.t.ev ≤ ct * x.t.ev := by
        have := Int.mul_le_mul_of_nonneg_right (a := 1) (b := ct) c2 (show 0 ≤ x.t.ev by have := ix.ev1; omega)
        omega
      omega
  have e1 := ix.ev1
  have nx' := h.nxn
  refine ⟨fun y hy => ?_, fun y hy => ?_, fun q hq => ?_, fun i y hy m => ?_⟩
  · rcases setL_mem hy with hy | ⟨x', hx', rfl⟩
    · have := nx' y hy; simp only at this ⊢; omega
    · rw [ok.hx] at hx'; cases hx'
      rw [q1, q2]; simp only; omega
  · rcases setL_mem hy with hy | ⟨x', hx', rfl⟩
    · exact h.fo y hy
    · rw [ok.hx] at hx'; cases hx'
      rw [q2]
      by_cases c : 0 < x.lf - (tz - s.fr)
      · obtain ⟨b1, b2⟩ := q3 c
        rw [b1, b2]; exact ⟨fx.1, fx.2.1, by omega⟩
      · obtain ⟨b1, b2⟩ := q4 c
        rw [b1, b2]; exact ⟨by omega, Int.dvd_add fx.2.1 (Int.dvd_refl _), Int.le_refl _⟩
  · simp only at hq
    rw [runS_snoc, if_neg (by omega)]
    exact h.free q (by simp only; omega)
  · simp only at hy
    rw [setL_get] at hy
    have cs := fun (t : Int) (ht : 0 ≤ t) (a n : Nat) => cnt_snoc (l := outs) (s := s') (t := t) ht (by omega) (fun q hq => h.free q (by simp only; omega)) a n
    by_cases ki : k = i
    · subst ki
      rw [if_pos rfl, ok.hx] at hy
      obtain rfl : doneL (tz - s.fr) x = y := Option.some.inj hy
      rw [q2, cs k (by omega), if_pos g1, h.ct k x ok.hx m, g2, g3]
      have ev : ((x.t.ev.toNat : Nat) : Int) = x.t.ev := Int.toNat_of_nonneg (by omega)
      have da : x.t.ev ∣ ((m * x.t.ev.toNat : Nat) : Int) := ⟨m, by rw [Int.natCast_mul, ev, Int.mul_comm]⟩
      generalize ((m * x.t.ev.toNat : Nat) : Int) = A at da ⊢
      rw [ev]
      have ga := dvd_gap da fx.2.1
      have gb := dvd_gap fx.2.1 da
      unfold shr
      rw [q2]
      by_cases c : 0 < x.lf - (tz - s.fr)
      · obtain ⟨b1, b2⟩ := q3 c
        rw [b1, b2, lfx]
        by_cases c1 : A < fO x
        · have := ga c1
          rw [if_pos c1, if_pos c1]; omega
        · rw [if_neg c1, if_neg c1]
          by_cases c2 : A = fO x
          · rw [if_pos c2, if_pos c2]; omega
          · have := gb (by omega)
            rw [if_neg c2, if_neg c2]; omega
      · obtain ⟨b1, b2⟩ := q4 c
        rw [b1, b2, lfx]
        by_cases c1 : A < fO x
        · have := ga c1
          rw [if_pos c1, if_pos (by omega)]; omega
        · rw [if_neg c1]
          by_cases c2 : A = fO x
          · rw [if_pos c2, if_pos (by omega)]; omega
          · have := gb (by omega)
            rw [if_neg c2, if_neg (by omega)]
            split <;> omega
    · rw [if_neg ki] at hy
      rw [cs i (by omega), if_neg (by omega), h.ct i y hy m]; omega
theorem Shr.none {K : Nat} {p : Pl} {l' : List Ln} {outs : List Sl} {lim : Int} (h : Shr p outs) (hE : Edf p) (hI : Inv K p) (hlim : p.now ≤ lim) (e : strL p.l p.now lim = (l', none)) : Shr ⟨l', lim⟩ outs := by
  have h1 := h.rel hE.pur hI.ln (Int.le_refl _)
  unfold strL at e
  split at e
  · split at e
    · cases e
      exact ⟨fun x hx => by have := h1.nxn x hx; simp only at this ⊢; omega, h1.fo, fun k hk => h1.free k (by simp only at hk ⊢; omega), h1.ct⟩
    · cases e
  · cases e
theorem shr_untilK {K : Nat} {T : Int} (hK : 1 ≤ K) (hT : T ≤ 1152921504606846976) : ∀ (f : Nat) (p : Pl) (outs : List Sl), Inv K p → Edf p → Shr p outs → Shr (untilK T f p).1 (outs ++ (untilK T f p).2)
  | 0, p, outs, _, _, h => by simpa [untilK] using h
  | f + 1, p, outs, hI, hE, h => by
    rw [untilK]
    split
    · simpa using h
    · rename_i hn
      split
      · rename_i l e
        simpa using h.none hE hI (by omega) e
      · rename_i l s due e
        obtain ⟨k, x, r, ws, ok⟩ := str_some hI.ln hK (by omega) e
        obtain ⟨c1, c2, c3⟩ := cutS_to (due := due) (ok.fr2 (by omega)) ok.to0
        have e1 := edf_str hE hI hK e
        have e2 := edf_run e1 ok c1 c2
        have i2 := inv_done ok hI.n0 (cutS_fr T due s).2 (cutS_fr T due s).1 rfl c1 c2 (by omega)
        have e3 : Edf (doneP l (cutS T due s)) := by
          unfold doneP
          rw [(cutS_fr T due s).2, (cutS_fr T due s).1, ok.tk]
          exact e2
        have s2 : Shr (doneP l (cutS T due s)) (outs ++ [cutS T due s]) := by
          have := (h.str hE hI hK (by omega) e).run (s' := cutS T due s) e1 ok c1 c2 ((cutS_fr T due s).2.trans ok.tk) (cutS_fr T due s).1 rfl
          unfold doneP
          rw [(cutS_fr T due s).2, (cutS_fr T due s).1, ok.tk]
          exact this
        have := shr_untilK hK hT f _ _ i2 e3 s2
        rw [List.append_assoc] at this
        exact this
theorem cnt_zero (t : Int) (ht : 0 ≤ t) (a : Nat) : ∀ n, cntN (fun k => runS [] k) t a n = 0
  | 0 => rfl
  | n + 1 => by
    have e1 : cntN (fun k => runS [] k) t a (n + 1) = cntN (fun k => runS [] k) t a n + if runS [] ((a + n : Nat) : Int) = t then 1 else 0 := rfl
    rw [e1, cnt_zero t ht a n, if_neg (by show ¬ (-1 : Int) = t; omega)]; rfl
theorem shr_new {L : List Tk} (h : newE L = 0) : Shr (newP L) [] := by
  have hi := inv_new h
  have hx0 : ∀ x ∈ (newP L).l, x.wt = [] ∧ x.nx = 0 := fun x hx => by obtain ⟨t, _, rfl⟩ := List.mem_map.1 hx; exact ⟨rfl, rfl⟩
  refine ⟨fun x hx => ?_, fun x hx => ?_, fun _ _ => rfl, fun i x hx m => ?_⟩
  · have := (hi.ln x hx).ev1; rw [(hx0 x hx).2]; show 0 ≤ 0 + x.t.ev; omega
  · obtain ⟨a, b⟩ := hx0 x hx
    unfold fO lO; rw [a]; simp only [b]; exact ⟨Int.le_refl _, Int.dvd_zero _, Int.le_refl _⟩
  · obtain ⟨a, b⟩ := hx0 x (List.mem_of_getElem? hx)
    rw [cnt_zero i (by omega)]
    unfold shr fO lO; rw [a]; simp only [b]
    rw [if_neg (by omega)]; split <;> omega
/-- at a tick that all periods divide, each has its share in each -/
theorem shr_end {K : Nat} {p : Pl} {outs : List Sl} {H : Nat} (h : Shr p outs) (hE : Edf p) (hI : Inv K p) (hn : p.now = H) (hd : ∀ x ∈ p.l, x.t.ev ∣ (H : Int)) {i : Nat} {x : Ln} (hx : p.l[i]? = some x) {m : Nat} (hm : m * x.t.ev.toNat < H) : cntN (fun k => runS outs k) i (m * x.t.ev.toNat) x.t.ev.toNat = x.t.lg := by
  have mx := List.mem_of_getElem? hx
  have ix := hI.ln x mx
  have d := hE.dem H
  have g := sum_ge (f := wkD H) (fun y hy => (hI.ln y hy).nonneg H) x mx
  have l1 := lO_pos ix
  have e1 := ix.ev1
  have fo := h.fo x mx
  have w0 : wkD H x ≤ 0 := by unfold sumD at d; omega
  have f1 : (H : Int) < fO x + x.t.ev := by
    rcases Int.lt_or_le (H : Int) (fO x + x.t.ev) with c | c
    · exact c
    · exfalso
      unfold wkD at w0
      rw [if_neg (by omega)] at w0
      have h1 : 1 ≤ ((H : Int) - fO x) / x.t.ev := Int.le_ediv_of_mul_le (by omega) (by omega)
      have := Int.mul_nonneg (a := x.t.lg) (b := ((H : Int) - fO x) / x.t.ev - 1) (by have := ix.lg1; omega) (by omega)
      omega
  have f2 : (H : Int) ≤ fO x := by
    rcases Int.lt_or_le (fO x) (H : Int) with c | c
    · have := dvd_gap fo.2.1 (hd x mx) c; omega
    · exact c
  rw [h.ct i x hx m]
  unfold shr
  rw [if_pos (by omega)]
theorem cntN_bd (f : Nat → Int) (t : Int) (a : Nat) : ∀ n : Nat, 0 ≤ cntN f t a n ∧ cntN f t a n ≤ n
  | 0 => by simp [cntN]
  | n + 1 => by
    have := cntN_bd f t a n
    simp only [cntN]
    split <;> omega
theorem tks_str (l : List Ln) (now lim : Int) : (strL l now lim).1.map (·.t) = l.map (·.t) := by
  unfold strL; split
  · split <;> simp [tks_rel]
  · simp [tks_rel]
theorem done_t (d : Int) (x : Ln) : (doneL d x).t = x.t := by unfold doneL; split; rfl; split <;> rfl
theorem tks_setL (l : List Ln) (i d : Int) : (setL l i (doneL d)).map (·.t) = l.map (·.t) := by
  refine List.ext_getElem? fun j => ?_
  unfold setL
  rw [List.getElem?_map, List.getElem?_map, List.getElem?_modify]
  cases l[j]? with
  | none => rfl
  | some x => show some ((if i.toNat = j then doneL d x else x).t) = some x.t
              by_cases e : i.toNat = j
              · rw [if_pos e, done_t]
              · rw [if_neg e]
theorem tks_untilK (T : Int) : ∀ (f : Nat) (p : Pl), (untilK T f p).1.l.map (·.t) = p.l.map (·.t)
  | 0, p => rfl
  | f + 1, p => by
    have h := tks_str p.l p.now T
    rw [untilK]
    split
    · rfl
    · split
      · rename_i l e
        rw [e] at h; exact h
      · rename_i l s due e
        rw [e] at h
        rw [tks_untilK T f]
        simp only [doneP, tks_setL]; exact h
/-- the shares of tasks whose load is at most the whole -/
theorem shares_of {F : List Tk} (hE : newE F = 0) (hl : Ld F) {H : Nat} (h0 : H ≤ 65536) (hd : ∀ t ∈ F, t.ev ∣ (H : Int)) {i : Nat} {t : Tk} (hi : F[i]? = some t) {m : Nat} (hm : m * t.ev.toNat < H) : cntN (fun k => runS (untilK H 65536 (newP F)).2 k) i (m * t.ev.toNat) t.ev.toNat = t.lg := by
  have I0 := inv_new hE
  have E0 := edf_new hE hl
  have S := shr_untilK (T := H) (Nat.le_refl 1) (by omega) 65536 (newP F) [] I0 E0 (shr_new hE)
  rw [List.nil_append] at S
  have I1 := inv_untilK (T := H) (Nat.le_refl 1) (by omega) 65536 (newP F) I0
  have E1 := (edf_untilK (T := H) (Nat.le_refl 1) (by omega) 65536 (newP F) I0 E0).1
  have n1 := now_is (T := H) (Nat.le_refl 1) (by omega) 65536 (newP F) I0 (by unfold newP; simp only; omega) (by unfold newP; simp only; omega)
  have tk : (untilK H 65536 (newP F)).1.l.map (·.t) = F := by rw [tks_untilK]; unfold newP; simp [Function.comp_def]
  generalize (untilK H 65536 (newP F)).1 = st at S I1 E1 n1 tk
  have hx : (st.l.map (·.t))[i]? = some t := by rw [tk]; exact hi
  rw [List.getElem?_map, Option.map_eq_some_iff] at hx
  obtain ⟨x, hx, rfl⟩ := hx
  exact shr_end S E1 I1 n1 (fun y hy => hd y.t (by rw [← tk]; exact List.mem_map_of_mem hy)) hx hm
end Pn
