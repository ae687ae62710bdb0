import Derived.Test.YtgdkmakmdomdbaaPnSh
set_option autoImplicit false
namespace Pn
/-! told in several goes the same task runs at each tick -/
structure Nrm (now : Int) (x : Ln) : Prop where
  pur : Pur x
  nxn : x.nx ≤ now + x.t.ev
  emp : x.wt = [] → x.lf = 0
def canon (T : Int) (t : Tk) (f l : Int) : Ln := if f ≤ T then ⟨t, f + ((T - f) / t.ev + 1) * t.ev, [⟨t, f, (T - f) / t.ev + 1⟩], l⟩ else ⟨t, f, [], 0⟩
theorem ln_eta (x : Ln) : x = ⟨x.t, x.nx, x.wt, x.lf⟩ := rfl
theorem pur_le {now : Int} {x : Ln} {fi ct : Int} (he : 1 ≤ x.t.ev) (h1 : fi + ct * x.t.ev = x.nx) (h2 : 1 ≤ ct) (hn : x.nx ≤ now + x.t.ev) : fi ≤ now := by
  have := Int.mul_le_mul_of_nonneg_right (a := 1) (b := ct) h2 (show 0 ≤ x.t.ev by omega)
  omega
theorem rel_canon {now T : Int} {x : Ln} (h : Nrm now x) (he : 1 ≤ x.t.ev) (hT : now ≤ T) : relL T x = canon T x.t (fO x) (lO x) := by
  rcases h.pur with h0 | ⟨fi, ct, h0, h1, h2⟩
  · have f1 : fO x = x.nx := by unfold fO; rw [h0]
    have f2 : lO x = x.t.lg := by unfold lO; rw [h0]
    rw [f1, f2]
    unfold canon
    by_cases c : T < x.nx
    · rw [relE_no c, if_neg (by omega)]
      conv => lhs; rw [ln_eta x, h0, h.emp h0]
    · rw [relE_none c h0, if_pos (by omega)]; rfl
  · have f1 : fO x = fi := by unfold fO; rw [h0]
    have f2 : lO x = x.lf := by unfold lO; rw [h0]
    have fl := pur_le he h1 h2 h.nxn
    rw [f1, f2]
    unfold canon
    rw [if_pos (by omega)]
    by_cases c : T < x.nx
    · have e : (T - fi) / x.t.ev = ct - 1 := by
        have a1 : ct - 1 ≤ (T - fi) / x.t.ev := Int.le_ediv_of_mul_le (by omega) (by rw [Int.sub_mul, Int.one_mul]; have := h.nxn; omega)
        have a2 : (T - fi) / x.t.ev < ct := Int.ediv_lt_of_lt_mul (by omega) (by omega)
        omega
      rw [relE_no c, e]
      conv => lhs; rw [ln_eta x, h0, ← h1]
      rw [show ct - 1 + 1 = ct by omega]
    · have e : (T - fi) / x.t.ev = (T - x.nx) / x.t.ev + ct := by
        rw [← Int.add_mul_ediv_right _ _ (show x.t.ev ≠ 0 by omega)]
        congr 1; omega
      rw [relE_same (ws := []) (r := ⟨x.t, fi, ct⟩) c h0 rfl, e]
      unfold relN
      rw [show (T - x.nx) / x.t.ev + ct + 1 = ct + ((T - x.nx) / x.t.ev + 1) by omega]
      rw [show fi + (ct + ((T - x.nx) / x.t.ev + 1)) * x.t.ev = x.nx + ((T - x.nx) / x.t.ev + 1) * x.t.ev by rw [Int.add_mul ct, ← Int.add_assoc, h1]]
      simp only [List.nil_append]
theorem nrm_rel {now T : Int} {x : Ln} (h : Nrm now x) (he : 1 ≤ x.t.ev) (hT : now ≤ T) : Nrm T (relL T x) := by
  obtain ⟨a, _, _, d⟩ := pur_rel T h.pur he
  refine ⟨a, by rw [d]; exact nx_rel hT he h.nxn, fun e => ?_⟩
  rw [rel_canon h he hT] at e ⊢
  unfold canon at e ⊢
  split at e
  · cases e
  · rename_i c; rw [if_neg c]
theorem nrm_mono {now T : Int} {x : Ln} (h : Nrm now x) (hT : now ≤ T) : Nrm T x := ⟨h.pur, by have := h.nxn; omega, h.emp⟩
theorem nrm_done {now d : Int} {x : Ln} {r : Rn} {ws : List Rn} (h : Nrm now x) (hw : x.wt = r :: ws) (d1 : d ≤ x.lf) (he : 1 ≤ x.t.ev) : Nrm now (doneL d x) := by
  obtain ⟨a, _, _⟩ := pur_done h.pur hw d1 he
  obtain ⟨b1, b2, _, _⟩ := pur_done2 (d := d) h.pur hw
  refine ⟨a, by rw [b1, b2]; exact h.nxn, fun e => ?_⟩
  unfold doneL at e ⊢
  split
  · rename_i c; rw [if_pos c] at e; simp only at e; rw [hw] at e; cases e
  · rename_i c
    rw [if_neg c] at e
    split
    · simp only; omega
    · rename_i hq; rw [hq] at e; simp at e
/-- the same for all that comes -/
structure Eq2 (p q : Pl) : Prop where
  now : p.now = q.now
  len : p.l.length = q.l.length
  key : ∀ (i : Nat) x y, p.l[i]? = some x → q.l[i]? = some y → x.t = y.t ∧ fO x = fO y ∧ lO x = lO y
theorem eq2_rel {p q : Pl} {T : Int} (h : Eq2 p q) (hp : ∀ x ∈ p.l, Nrm p.now x ∧ 1 ≤ x.t.ev) (hq : ∀ x ∈ q.l, Nrm q.now x ∧ 1 ≤ x.t.ev) (hT : p.now ≤ T) : rel T p.l = rel T q.l := by
  refine List.ext_getElem? fun i => ?_
  unfold rel
  rw [List.getElem?_map, List.getElem?_map]
  by_cases hi : i < p.l.length
  · have e1 : p.l[i]? = some p.l[i] := List.getElem?_eq_getElem hi
    have e2 : q.l[i]? = some (q.l[i]'(by rw [← h.len]; exact hi)) := List.getElem?_eq_getElem (by rw [← h.len]; exact hi)
    obtain ⟨k1, k2, k3⟩ := h.key i _ _ e1 e2
    obtain ⟨n1, v1⟩ := hp _ (List.mem_of_getElem? e1)
    obtain ⟨n2, v2⟩ := hq _ (List.mem_of_getElem? e2)
    rw [e1, e2]
    simp only [Option.map_some, Option.some.injEq]
    rw [rel_canon n1 v1 hT, rel_canon n2 v2 (by rw [← h.now]; exact hT), k1, k2, k3]
  · rw [List.getElem?_eq_none (by omega), List.getElem?_eq_none (by rw [← h.len]; omega)]
theorem str_congr {l1 l2 : List Ln} {now : Int} (lim : Int) (h : rel now l1 = rel now l2) (hl : l1.length = l2.length) : strL l1 now lim = strL l2 now lim := by
  unfold strL; rw [h, hl]
/-! no more fuel than ticks -/
theorem until_fuel {K : Nat} {T : Int} (hK : 1 ≤ K) (hT : T ≤ 1152921504606846976) : ∀ (f : Nat) (p : Pl), Inv K p → T - p.now ≤ f → untilK T (f + 1) p = untilK T f p
  | 0, p, _, h => by
    conv => lhs; rw [untilK, if_pos (show T ≤ p.now by omega)]
    rfl
  | f + 1, p, hI, h => by
    by_cases c : T ≤ p.now
    · rw [untilK, if_pos c, untilK, if_pos c]
    · rw [untilK, untilK, if_neg c, if_neg c]
      split
      · rfl
      · rename_i l s due e
        obtain ⟨k, x, r, ws, ok⟩ := str_some hI.ln hK (by omega) e
        obtain ⟨c1, c2, c3⟩ := cutS_to (due := due) (ok.fr2 (by omega)) ok.to0
        have i2 := inv_done ok hI.n0 (cutS_fr T due s).2 (cutS_fr T due s).1 rfl c1 c2 (by omega)
        have f0 := ok.fr0
        have e2 : (doneP l (cutS T due s)).now = (cutS T due s).to := rfl
        rw [until_fuel hK hT f _ i2 (by omega)]
theorem until_fuel2 {K : Nat} {T : Int} (hK : 1 ≤ K) (hT : T ≤ 1152921504606846976) (p : Pl) (hI : Inv K p) (f : Nat) (h : T - p.now ≤ f) : ∀ g, untilK T (f + g) p = untilK T f p
  | 0 => rfl
  | g + 1 => by rw [← Nat.add_assoc, until_fuel hK hT _ p hI (by omega), until_fuel2 hK hT p hI f h g]
def untX (T : Int) (p : Pl) : Pl × List Sl := untilK T (T - p.now).toNat p
theorem untX_is {K : Nat} {T : Int} (hK : 1 ≤ K) (hT : T ≤ 1152921504606846976) (p : Pl) (hI : Inv K p) (f : Nat) (h : T - p.now ≤ f) : untilK T f p = untX T p := by
  unfold untX
  have e : f = (T - p.now).toNat + (f - (T - p.now).toNat) := by omega
  rw [e, until_fuel2 hK hT p hI _ (by omega)]
theorem untX_end {T : Int} {p : Pl} (h : T ≤ p.now) : untX T p = (p, []) := by
  unfold untX; rw [show (T - p.now).toNat = 0 by omega]; rfl
theorem untX_none {T : Int} {p : Pl} {l : List Ln} (h : ¬ T ≤ p.now) (e : strL p.l p.now T = (l, none)) : untX T p = (⟨l, T⟩, []) := by
  unfold untX
  rw [show (T - p.now).toNat = ((T - p.now).toNat - 1) + 1 by omega, untilK, if_neg h, e]
theorem untX_some {K : Nat} {T : Int} (hK : 1 ≤ K) (hT : T ≤ 1152921504606846976) {p : Pl} {l : List Ln} {s : Sl} {due : Int} (hI : Inv K p) (h : ¬ T ≤ p.now) (e : strL p.l p.now T = (l, some (s, due))) :
    untX T p = ((untX T (doneP l (cutS T due s))).1, cutS T due s :: (untX T (doneP l (cutS T due s))).2) := by
  obtain ⟨k, x, r, ws, ok⟩ := str_some hI.ln hK (by omega) e
  obtain ⟨c1, c2, c3⟩ := cutS_to (due := due) (ok.fr2 (by omega)) ok.to0
  have i2 := inv_done ok hI.n0 (cutS_fr T due s).2 (cutS_fr T due s).1 rfl c1 c2 (by omega)
  have f0 := ok.fr0
  have e2 : (doneP l (cutS T due s)).now = (cutS T due s).to := rfl
  conv => lhs; unfold untX
  rw [show (T - p.now).toNat = ((T - p.now).toNat - 1) + 1 by omega, untilK, if_neg h, e]
  simp only
  rw [untX_is hK hT _ i2 _ (by omega)]
theorem untX_congr {K : Nat} {T : Int} (hK : 1 ≤ K) (hT : T ≤ 1152921504606846976) {p q : Pl} (h1 : Inv K p) (h2 : Inv K q) (e : ¬ T ≤ p.now → strL p.l p.now T = strL q.l q.now T) (hn : T ≤ p.now ↔ T ≤ q.now) : (untX T p).2 = (untX T q).2 := by
  by_cases c : T ≤ p.now
  · rw [untX_end c, untX_end (hn.1 c)]
  · have c2 : ¬ T ≤ q.now := fun h => c (hn.2 h)
    have e := e c
    obtain ⟨⟨l, o⟩, hs⟩ : ∃ z, strL p.l p.now T = z := ⟨_, rfl⟩
    cases o with
    | none => rw [untX_none c hs, untX_none c2 (e ▸ hs)]
    | some sd =>
      obtain ⟨s, due⟩ := sd
      rw [untX_some hK hT h1 c hs, untX_some hK hT h2 c2 (e ▸ hs)]
/-! jobs in order -/
theorem bef_iff (a b : Job) : bef a b = true ↔ a.due < b.due ∨ a.due = b.due ∧ (b.rk < a.rk ∨ a.rk = b.rk ∧ a.task < b.task) := by
  unfold bef
  by_cases h : a.due = b.due
  · by_cases h2 : a.rk = b.rk
    · simp [h, h2]
    · simp [h, h2]
  · simp [h]
theorem bestK_min2 (l : List Ln) : ∀ k, k ≤ l.length → ∀ i < k, ∀ x r ws, l[i]? = some x → x.wt = r :: ws → ¬ bef ⟨r.fi + r.t.ev, r.t.rk, i⟩ (bestK l k) = true
  | 0, _, i, hi => by omega
  | k + 1, hk, i, hi => by
    intro x r ws hx hw
    have hxk : l[k]? = some l[k] := List.getElem?_eq_getElem (by omega)
    have e : bestK l (k + 1) = bstep (bestK l k) k l[k] := by simp only [bestK, hxk]
    rw [e]
    by_cases hik : i = k
    · subst hik
      rw [hxk] at hx; cases hx
      unfold bstep; rw [hw]
      simp only
      split
      · rw [bef_iff]; simp
      · rename_i hn
        simp only [Bool.or_eq_true, decide_eq_true_eq, not_or] at hn
        exact hn.2
    · have ih := bestK_min2 l k (by omega) i (by omega) x r ws hx hw
      have t0 := (bestK_min l k (by omega) i (by omega) x r ws hx hw).1
      unfold bstep
      split
      · exact ih
      · rename_i r' ws' hw'
        split
        · rename_i hc
          simp only [Bool.or_eq_true, decide_eq_true_eq] at hc
          rcases hc with hc | hc
          · omega
          · rw [bef_iff] at hc ih ⊢; simp only at hc ih ⊢; omega
        · exact ih
theorem best_char {l : List Ln} {k : Nat} {x : Ln} {r : Rn} {ws : List Rn} (hx : l[k]? = some x) (hw : x.wt = r :: ws) (h : ∀ (i : Nat) y r' ws', l[i]? = some y → y.wt = r' :: ws' → ¬ bef ⟨r'.fi + r'.t.ev, r'.t.rk, i⟩ ⟨r.fi + r.t.ev, r.t.rk, k⟩ = true) : best l = ⟨r.fi + r.t.ev, r.t.rk, k⟩ := by
  rcases best_idx l with ⟨_, h0⟩ | ⟨i, hi, _, y, r', ws', hy, hw', hb⟩
  · have := h0 x (List.mem_of_getElem? hx); rw [hw] at this; cases this
  · have a := h i y r' ws' hy hw'
    have b := bestK_min2 l _ (Nat.le_refl _) k (List.getElem?_eq_some_iff.1 hx).1 x r ws hx hw
    have hb' : bestK l l.length = ⟨r'.fi + r'.t.ev, r'.t.rk, i⟩ := hb
    rw [hb'] at b
    rw [bef_iff] at a b
    simp only at a b
    have : i = k := by omega
    subst this
    rw [hx] at hy; cases hy
    rw [hw] at hw'; cases hw'
    exact hb
theorem toK_cut2 {l : List Ln} {j : Job} {to : Int} : ∀ k, k ≤ l.length → ∀ i < k, ∀ x, l[i]? = some x → x.wt = [] → bef ⟨x.nx + x.t.ev, x.t.rk, i⟩ j = true → toK l j to k ≤ x.nx
  | 0, _, i, hi => by omega
  | k + 1, hk, i, hi => by
    intro x hx hw hb
    have hxk : l[k]? = some l[k] := List.getElem?_eq_getElem (by omega)
    have e : toK l j to (k + 1) = tstep j (toK l j to k) k l[k] := by simp only [toK, hxk]
    rw [e]
    by_cases hik : i = k
    · subst hik
      rw [hxk] at hx; cases hx
      unfold tstep; rw [hw, hb]; simp only [List.isEmpty_nil, Bool.and_self, if_pos]
      omega
    · have ih := toK_cut2 (j := j) (to := to) k (by omega) i (by omega) x hx hw hb
      unfold tstep; split <;> omega
theorem toK_congr {l l' : List Ln} {j : Job} {to : Int} (hl : l.length = l'.length) (h : ∀ (i : Nat) x y, l[i]? = some x → l'[i]? = some y → ∀ a, tstep j a i x = tstep j a i y) : ∀ k, k ≤ l.length → toK l j to k = toK l' j to k
  | 0, _ => rfl
  | k + 1, hk => by
    have e1 : l[k]? = some l[k] := List.getElem?_eq_getElem (by omega)
    have e2 : l'[k]? = some (l'[k]'(by omega)) := List.getElem?_eq_getElem (by omega)
    have a1 : toK l j to (k + 1) = tstep j (toK l j to k) k l[k] := by simp only [toK, e1]
    have a2 : toK l' j to (k + 1) = tstep j (toK l' j to k) k (l'[k]'(by omega)) := by simp only [toK, e2]
    rw [a1, a2, toK_congr hl h k (by omega)]
    exact h k _ _ e1 e2 _
end Pn
