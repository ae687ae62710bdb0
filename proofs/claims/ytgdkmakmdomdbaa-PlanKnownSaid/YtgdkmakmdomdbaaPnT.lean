import Derived.Test.YtgdkmakmdomdbaaPnL
set_option autoImplicit false
namespace Pn
/-! the earliest due first: where the load is at most the whole, none is late -/
def fO (x : Ln) : Int := match x.wt with
  | [] => x.nx
  | r :: _ => r.fi
def lO (x : Ln) : Int := match x.wt with
  | [] => x.t.lg
  | _ :: _ => x.lf
def Pur (x : Ln) : Prop := x.wt = [] ∨ ∃ fi ct, x.wt = [⟨x.t, fi, ct⟩] ∧ fi + ct * x.t.ev = x.nx ∧ 1 ≤ ct
/-- the work that is due by D -/
def wkD (D : Int) (x : Ln) : Int := if D < fO x + x.t.ev then 0 else lO x + x.t.lg * ((D - fO x) / x.t.ev - 1)
def sumD (D : Int) (l : List Ln) : Int := (l.map (wkD D)).sum
def Ld (ts : List Tk) : Prop := ∃ H : Int, 0 < H ∧ (∀ t ∈ ts, t.ev ∣ H) ∧ (ts.map fun t => t.lg * (H / t.ev)).sum ≤ H
theorem pur_rel {x : Ln} (T : Int) (h : Pur x) (he : 1 ≤ x.t.ev) : Pur (relL T x) ∧ fO (relL T x) = fO x ∧ lO (relL T x) = lO x ∧ (relL T x).t = x.t := by
  by_cases hg : T < x.nx
  · rw [relE_no hg]; exact ⟨h, rfl, rfl, rfl⟩
  · obtain ⟨n1, _, _⟩ := relN_bd hg he
    rcases h with h0 | ⟨fi, ct, h0, h1, h2⟩
    · rw [relE_none hg h0]
      refine ⟨.inr ⟨x.nx, relN T x, rfl, rfl, n1⟩, ?_, ?_, rfl⟩
      · unfold fO; rw [h0]
      · unfold lO; rw [h0]
    · rw [relE_same (ws := []) (r := ⟨x.t, fi, ct⟩) hg h0 rfl]
      refine ⟨.inr ⟨fi, ct + relN T x, rfl, ?_, by omega⟩, ?_, ?_, rfl⟩
      · simp only; rw [Int.add_mul]; omega
      · unfold fO; rw [h0]; rfl
      · unfold lO; rw [h0]; rfl
theorem wkD_rel {x : Ln} (T D : Int) (h : Pur x) (he : 1 ≤ x.t.ev) : wkD D (relL T x) = wkD D x := by
  obtain ⟨_, h1, h2, h3⟩ := pur_rel T h he
  unfold wkD; rw [h1, h2, h3]
theorem sumD_rel {K : Nat} {now : Int} {l : List Ln} (T D : Int) (h : ∀ x ∈ l, Pur x) (hi : ∀ x ∈ l, InL K now x) : sumD D (rel T l) = sumD D l := by
  unfold sumD rel
  rw [List.map_map]
  exact congrArg _ (List.map_congr_left fun x hx => wkD_rel T D (h x hx) (hi x hx).ev1)
theorem tks_rel (T : Int) (l : List Ln) : (rel T l).map (·.t) = l.map (·.t) := by
  unfold rel; rw [List.map_map]
  refine List.map_congr_left fun x _ => ?_
  simp only [Function.comp, relL]; split <;> rfl
theorem ediv_pred {a b : Int} (h : 1 ≤ b) : (a - b) / b = a / b - 1 := by
  have := Int.add_mul_ediv_right a (-1) (c := b) (by omega)
  rw [show a - b = a + -1 * b from by omega, this]; omega
theorem ediv_one {a b : Int} (h1 : b ≤ a) (h2 : a < b + b) (hb : 1 ≤ b) : a / b = 1 := by
  have e := ediv_pred (a := a) hb
  have : (a - b) / b = 0 := Int.ediv_eq_zero_of_lt (by omega) (by omega)
  omega
theorem pur_done {x : Ln} {r : Rn} {ws : List Rn} {d : Int} (h : Pur x) (hw : x.wt = r :: ws) (d1 : d ≤ x.lf) (he : 1 ≤ x.t.ev) : Pur (doneL d x) ∧ (doneL d x).t = x.t ∧ ∀ D, wkD D (doneL d x) = if D < r.fi + r.t.ev then 0 else wkD D x - d := by
  rcases h with h0 | ⟨fi, ct, h0, h1, h2⟩
  · rw [h0] at hw; cases hw
  rw [h0] at hw; cases hw
  have hfO : fO x = fi := by unfold fO; rw [h0]
  have hlO : lO x = x.lf := by unfold lO; rw [h0]
  by_cases hp : 0 < x.lf - d
  · have e : doneL d x = { x with lf := x.lf - d } := by unfold doneL; rw [if_pos hp]
    rw [e]
    refine ⟨.inr ⟨fi, ct, h0, h1, h2⟩, rfl, fun D => ?_⟩
    have a1 : fO { x with lf := x.lf - d } = fi := by unfold fO; simp only [h0]
    have a2 : lO { x with lf := x.lf - d } = x.lf - d := by unfold lO; simp only [h0]
    unfold wkD; rw [a1, a2, hfO, hlO]; simp only; split <;> omega
  · have e0 : ∀ D, (if D < fi + x.t.ev + x.t.ev then 0 else x.t.lg + x.t.lg * ((D - (fi + x.t.ev)) / x.t.ev - 1)) = if D < fi + x.t.ev then 0 else wkD D x - d := fun D => by
      unfold wkD; rw [hfO, hlO]
      by_cases c1 : D < fi + x.t.ev
      · rw [if_pos (by omega), if_pos c1]
      · rw [if_neg c1, if_neg c1]
        by_cases c2 : D < fi + x.t.ev + x.t.ev
        · rw [if_pos c2, ediv_one (by omega) (by omega) he]; simp; omega
        · rw [if_neg c2, show D - (fi + x.t.ev) = (D - fi) - x.t.ev from by omega, ediv_pred he]
          have : x.t.lg * ((D - fi) / x.t.ev - 1 - 1) = x.t.lg * ((D - fi) / x.t.ev - 1) - x.t.lg := by rw [Int.mul_sub, Int.mul_one]
          omega
    by_cases hc : ct - 1 = 0
    · have e : doneL d x = { x with wt := [], lf := x.lf - d } := by unfold doneL; rw [if_neg hp, h0, popW_cons, if_pos hc]
      rw [e]
      refine ⟨.inl rfl, rfl, fun D => ?_⟩
      rw [← e0 D]
      have hn : x.nx = fi + x.t.ev := by have : ct = 1 := by omega
                                         rw [this, Int.one_mul] at h1; omega
      unfold wkD fO lO; simp only [hn]
    · have e : doneL d x = { x with wt := [⟨x.t, fi + x.t.ev, ct - 1⟩], lf := x.t.lg } := by unfold doneL; rw [if_neg hp, h0, popW_cons, if_neg hc]
      rw [e]
      refine ⟨.inr ⟨fi + x.t.ev, ct - 1, rfl, ?_, by omega⟩, rfl, fun D => ?_⟩
      · simp only; rw [Int.sub_mul, Int.one_mul]; omega
      · rw [← e0 D]; unfold wkD fO lO; simp only
/-- the best is due no later than another that waits -/
theorem bestK_min (l : List Ln) : ∀ k, k ≤ l.length → ∀ i < k, ∀ x r ws, l[i]? = some x → x.wt = r :: ws → 0 ≤ (bestK l k).task ∧ (bestK l k).due ≤ r.fi + r.t.ev
  | 0, _, i, hi => by omega
  | k + 1, hk, i, hi => by
    intro x r ws hx hw
    have hxk : l[k]? = some l[k] := List.getElem?_eq_getElem (by omega)
    have e : bestK l (k + 1) = bstep (bestK l k) k l[k] := by simp only [bestK, hxk]
    rw [e]
    by_cases hik : i = k
    · subst hik
      rw [hxk] at hx; cases hx
      unfold bstep; rw [hw]
      simp only
      split
      · exact ⟨by simp, Int.le_refl _⟩
      · rename_i hn
        simp only [Bool.or_eq_true, decide_eq_true_eq, not_or, Bool.not_eq_true] at hn
        refine ⟨by omega, ?_⟩
        have := hn.2
        unfold bef at this
        by_cases h1 : r.fi + r.t.ev = (bestK l i).due
        · omega
        · rw [if_pos h1] at this
          simp only [decide_eq_false_iff_not] at this
          omega
    · have ih := bestK_min l k (by omega) i (by omega) x r ws hx hw
      unfold bstep
      split
      · exact ih
      · rename_i r' ws' hw'
        split
        · rename_i hc
          refine ⟨by simp, ?_⟩
          simp only [Bool.or_eq_true, decide_eq_true_eq] at hc
          rcases hc with hc | hc
          · omega
          · unfold bef at hc
            by_cases h1 : r'.fi + r'.t.ev = (bestK l k).due
            · simp only; omega
            · rw [if_pos h1] at hc
              simp only [decide_eq_true_eq] at hc
              simp only; omega
        · exact ih
theorem toK_cut {l : List Ln} {j : Job} {to : Int} : ∀ k, k ≤ l.length → ∀ i < k, ∀ x, l[i]? = some x → x.wt = [] → x.nx + x.t.ev < j.due → toK l j to k ≤ x.nx
  | 0, _, i, hi => by omega
  | k + 1, hk, i, hi => by
    intro x hx hw hd
    have hxk : l[k]? = some l[k] := List.getElem?_eq_getElem (by omega)
    have e : toK l j to (k + 1) = tstep j (toK l j to k) k l[k] := by simp only [toK, hxk]
    rw [e]
    by_cases hik : i = k
    · subst hik
      rw [hxk] at hx; cases hx
      have hb : bef ⟨l[i].nx + l[i].t.ev, l[i].t.rk, i⟩ j = true := by unfold bef; rw [if_pos (by simp only; omega)]; simp only [decide_eq_true_eq]; exact hd
      unfold tstep; rw [hw, hb]; simp only [List.isEmpty_nil, Bool.and_self, if_pos]
      omega
    · have ih := toK_cut (j := j) (to := to) k (by omega) i (by omega) x hx hw hd
      unfold tstep; split <;> omega
theorem minK_nx {l : List Ln} {lim : Int} : ∀ k, k ≤ l.length → ∀ i < k, ∀ x, l[i]? = some x → minK l lim k ≤ x.nx
  | 0, _, i, hi => by omega
  | k + 1, hk, i, hi => by
    intro x hx
    have hxk : l[k]? = some l[k] := List.getElem?_eq_getElem (by omega)
    have e : minK l lim (k + 1) = min (minK l lim k) l[k].nx := by simp only [minK, hxk]
    rw [e]
    by_cases hik : i = k
    · subst hik; rw [hxk] at hx; cases hx; omega
    · have ih := minK_nx (lim := lim) k (by omega) i (by omega) x hx; omega
theorem minK_le_nx {l : List Ln} {lim : Int} {x : Ln} (hx : x ∈ l) : minK l lim l.length ≤ x.nx := by
  obtain ⟨i, hi⟩ := List.mem_iff_getElem?.1 hx
  exact minK_nx _ (Nat.le_refl _) i (List.getElem?_eq_some_iff.1 hi).1 x hi
/-! sums -/
theorem sum_nonneg {l : List Int} (h : ∀ x ∈ l, 0 ≤ x) : 0 ≤ l.sum := by
  induction l with
  | nil => simp
  | cons a l ih => have := h a (by simp); have := ih (fun x hx => h x (by simp [hx])); rw [List.sum_cons]; omega
theorem sum_ge {l : List Ln} {f : Ln → Int} (h : ∀ x ∈ l, 0 ≤ f x) : ∀ x ∈ l, f x ≤ (l.map f).sum := by
  induction l with
  | nil => intro x hx; simp at hx
  | cons a l ih =>
    intro x hx
    rw [List.map_cons, List.sum_cons]
    have n : 0 ≤ (l.map f).sum := sum_nonneg fun y hy => by obtain ⟨z, hz, rfl⟩ := List.mem_map.1 hy; exact h z (by simp [hz])
    rcases List.mem_cons.1 hx with rfl | hx
    · omega
    · have := ih (fun x hx => h x (by simp [hx])) x hx
      have := h a (by simp); omega
theorem sum_zero {l : List Ln} {f : Ln → Int} (h : ∀ x ∈ l, f x = 0) : (l.map f).sum = 0 := by
  induction l with
  | nil => rfl
  | cons a l ih => rw [List.map_cons, List.sum_cons, h a (by simp), ih (fun x hx => h x (by simp [hx]))]; rfl
theorem sum_modify {l : List Ln} {f : Ln → Int} {g : Ln → Ln} : ∀ {k : Nat} {x : Ln}, l[k]? = some x → ((l.modify k g).map f).sum = (l.map f).sum - f x + f (g x) := by
  induction l with
  | nil => intro k x h; simp at h
  | cons a l ih =>
    intro k x h
    cases k with
    | zero => simp only [List.getElem?_cons_zero, Option.some.injEq] at h; subst h; simp; omega
    | succ k =>
      rw [List.getElem?_cons_succ] at h
      simp only [List.modify_succ_cons, List.map_cons, List.sum_cons]
      rw [ih h]; omega
theorem sumD_set {l : List Ln} {k : Nat} {g : Ln → Ln} {x : Ln} (D : Int) (h : l[k]? = some x) : sumD D (setL l k g) = sumD D l - wkD D x + wkD D (g x) := by
  unfold sumD setL; rw [Int.toNat_natCast]; exact sum_modify h
theorem sum_bd {l : List Ln} {f : Ln → Int} {H E : Int} (h : ∀ x ∈ l, f x * H ≤ x.t.lg * (H / x.t.ev) * E) : (l.map f).sum * H ≤ ((l.map (·.t)).map fun t => t.lg * (H / t.ev)).sum * E := by
  induction l with
  | nil => simp
  | cons a l ih =>
    have := h a (by simp)
    have := ih (fun x hx => h x (by simp [hx]))
    simp only [List.map_cons, List.sum_cons, Int.add_mul] at *
    omega
theorem wkD_nonneg {x : Ln} (D : Int) (he : 1 ≤ x.t.ev) (hl : 1 ≤ x.t.lg) (hf : 0 ≤ lO x) : 0 ≤ wkD D x := by
  unfold wkD; split
  · omega
  · have h1 : 1 ≤ (D - fO x) / x.t.ev := by
      have := Int.le_ediv_of_mul_le (a := 1) (b := D - fO x) (c := x.t.ev) (by omega) (by omega); omega
    have := Int.mul_nonneg (a := x.t.lg) (b := (D - fO x) / x.t.ev - 1) (by omega) (by omega)
    omega
theorem lO_pos {K : Nat} {now : Int} {x : Ln} (h : InL K now x) : 1 ≤ lO x := by
  unfold lO; split
  · exact h.lg1
  · rename_i hw; exact h.lfp (by rw [hw]; simp)
theorem InL.nonneg {K : Nat} {now : Int} {x : Ln} (h : InL K now x) (D : Int) : 0 ≤ wkD D x := wkD_nonneg D h.ev1 h.lg1 (by have := lO_pos h; omega)
/-- a line that rests up to T has no more due than its share behind T -/
theorem idle_line {K : Nat} {now T D H : Int} {x : Ln} (h : InL K now x) (hw : x.wt = []) (hT : T ≤ x.nx) (hD : T ≤ D) (hH : 0 < H) (hd : x.t.ev ∣ H) : wkD D x * H ≤ x.t.lg * (H / x.t.ev) * (D - T) := by
  have e1 := h.ev1
  have l1 := h.lg1
  obtain ⟨q, rfl⟩ := hd
  have q0 : 0 ≤ q := by
    rcases Int.lt_or_le q 0 with hq | hq
    · have := Int.mul_neg_of_pos_of_neg (a := x.t.ev) (b := q) (by omega) hq; omega
    · exact hq
  rw [Int.mul_ediv_cancel_left q (by omega)]
  have lq : 0 ≤ x.t.lg * q := Int.mul_nonneg (by omega) q0
  have f1 : fO x = x.nx := by unfold fO; rw [hw]
  have f2 : lO x = x.t.lg := by unfold lO; rw [hw]
  unfold wkD; rw [f1, f2]
  split
  · have := Int.mul_nonneg lq (show 0 ≤ D - T by omega); omega
  · rw [show x.t.lg + x.t.lg * ((D - x.nx) / x.t.ev - 1) = x.t.lg * ((D - x.nx) / x.t.ev) from by rw [Int.mul_sub, Int.mul_one]; omega]
    have m := Int.mul_ediv_self_le (x := D - x.nx) (k := x.t.ev) (by omega)
    have : x.t.lg * ((D - x.nx) / x.t.ev) * (x.t.ev * q) = x.t.lg * q * (x.t.ev * ((D - x.nx) / x.t.ev)) := by ac_rfl
    rw [this]
    exact Int.mul_le_mul_of_nonneg_left (by omega) lq
theorem zero_line {x : Ln} {D : Int} (h : D < fO x + x.t.ev) : wkD D x = 0 := by unfold wkD; rw [if_pos h]
/-- what stays true: nothing due by D that does not fit -/
structure Edf (p : Pl) : Prop where
  pur : ∀ x ∈ p.l, Pur x
  ld : Ld (p.l.map (·.t))
  dem : ∀ D, sumD D p.l ≤ max 0 (D - p.now)
theorem sum_ld {l : List Ln} {D T : Int} (hl : Ld (l.map (·.t))) (hD : T ≤ D) (h : ∀ H, 0 < H → (∀ x ∈ l, x.t.ev ∣ H) → ∀ x ∈ l, wkD D x * H ≤ x.t.lg * (H / x.t.ev) * (D - T)) : sumD D l ≤ D - T := by
  obtain ⟨H, h0, h1, h2⟩ := hl
  have b := sum_bd (h H h0 fun x hx => h1 x.t (List.mem_map_of_mem hx))
  have c := Int.mul_le_mul_of_nonneg_right h2 (show 0 ≤ D - T by omega)
  have d : (l.map (wkD D)).sum * H ≤ (D - T) * H := by rw [Int.mul_comm (D - T)]; exact Int.le_trans b c
  exact Int.le_of_mul_le_mul_right d h0
theorem idle_dem {K : Nat} {now T : Int} {l : List Ln} (hi : ∀ x ∈ l, InL K now x) (hl : Ld (l.map (·.t))) (hw : ∀ x ∈ l, x.wt = []) (hn : ∀ x ∈ l, T ≤ x.nx) (D : Int) : sumD D l ≤ max 0 (D - T) := by
  by_cases hD : T ≤ D
  · have := sum_ld (D := D) hl hD fun H hH hd x hx => idle_line (hi x hx) (hw x hx) (hn x hx) hD hH (hd x hx)
    omega
  · have : sumD D l = 0 := sum_zero fun x hx => zero_line (by
      have := hn x hx; have := (hi x hx).ev1; unfold fO; rw [hw x hx]; simp only; omega)
    omega
/-- the lines at a stretch's beginning -/
theorem edf_str {K : Nat} {p : Pl} {l' : List Ln} {lim due : Int} {s : Sl} (hE : Edf p) (hI : Inv K p) (hK : 1 ≤ K) (e : strL p.l p.now lim = (l', some (s, due))) : Edf ⟨l', s.fr⟩ := by
  have i1 := rel_inv hI.ln (Int.le_refl p.now) hK
  have n1 := rel_nx (T := p.now) hI.ln
  have p1 : ∀ x ∈ rel p.now p.l, Pur x := fun x hx => by
    obtain ⟨y, hy, rfl⟩ := List.mem_map.1 hx
    exact (pur_rel p.now (hE.pur y hy) (hI.ln y hy).ev1).1
  have t1 : Ld ((rel p.now p.l).map (·.t)) := by rw [tks_rel]; exact hE.ld
  unfold strL at e
  split at e
  · split at e
    · cases e
    · rename_i hneg hne
      cases e
      have hw : ∀ x ∈ rel p.now p.l, x.wt = [] := by
        rcases best_idx (rel p.now p.l) with ⟨_, h⟩ | ⟨i, _, h, _⟩
        · exact h
        · omega
      refine ⟨fun x hx => ?_, ?_, fun D => ?_⟩
      · obtain ⟨y, hy, rfl⟩ := List.mem_map.1 hx
        exact (pur_rel _ (p1 y hy) (i1 y hy).ev1).1
      · simp only; rw [tks_rel]; exact t1
      · simp only [slOf]
        rw [sumD_rel _ D p1 i1]
        exact idle_dem i1 t1 hw (fun x hx => by have := minK_le_nx (lim := lim) hx; rw [rel_length] at this; exact this) D
  · cases e
    exact ⟨p1, t1, fun D => by simp only [slOf]; rw [sumD_rel _ D hE.pur hI.ln]; exact hE.dem D⟩
theorem edf_none {K : Nat} {p : Pl} {l' : List Ln} {lim : Int} (hE : Edf p) (hI : Inv K p) (hK : 1 ≤ K) (e : strL p.l p.now lim = (l', none)) : Edf ⟨l', lim⟩ := by
  have i1 := rel_inv hI.ln (Int.le_refl p.now) hK
  have p1 : ∀ x ∈ rel p.now p.l, Pur x := fun x hx => by
    obtain ⟨y, hy, rfl⟩ := List.mem_map.1 hx
    exact (pur_rel p.now (hE.pur y hy) (hI.ln y hy).ev1).1
  have t1 : Ld ((rel p.now p.l).map (·.t)) := by rw [tks_rel]; exact hE.ld
  unfold strL at e
  split at e
  · split at e
    · rename_i hneg hne
      cases e
      have hw : ∀ x ∈ rel p.now p.l, x.wt = [] := by
        rcases best_idx (rel p.now p.l) with ⟨_, h⟩ | ⟨i, _, h, _⟩
        · exact h
        · omega
      exact ⟨p1, t1, idle_dem i1 t1 hw fun x hx => by have := minK_le_nx (lim := lim) hx; rw [rel_length, hne] at this; exact this⟩
    · cases e
  · cases e
/-- none is late -/
theorem edf_due {K : Nat} {now lim due : Int} {l' : List Ln} {s : Sl} {k : Nat} {x : Ln} {r : Rn} {ws : List Rn} (hE : Edf ⟨l', s.fr⟩) (h : StrOk K now lim l' s due k x r ws) : s.to ≤ due := by
  have hx := List.mem_of_getElem? h.hx
  have ix := h.ln x hx
  have a := sum_ge (f := wkD due) (fun y hy => (h.ln y hy).nonneg due) x hx
  have b := hE.dem due
  have lp := ix.lfp (by rw [h.hw]; simp)
  have t1 := h.to1
  have e : wkD due x = x.lf := by
    rcases hE.pur x hx with h0 | ⟨fi, ct, h0, _, _⟩
    · rw [h.hw] at h0; cases h0
    · have hw := h.hw
      rw [h0] at hw; cases hw
      have : due = fi + x.t.ev := h.du
      unfold wkD fO lO; rw [h0]; simp only; rw [if_neg (by omega), show due - fi = x.t.ev from by omega, Int.ediv_self (by have := ix.ev1; omega)]; simp
  unfold sumD at b
  simp only at b
  omega
theorem edf_run {K : Nat} {now lim due tz : Int} {l' : List Ln} {s : Sl} {k : Nat} {x : Ln} {r : Rn} {ws : List Rn} (hE : Edf ⟨l', s.fr⟩) (h : StrOk K now lim l' s due k x r ws) (h1 : s.fr < tz) (h2 : tz ≤ s.to) : Edf ⟨setL l' k (doneL (tz - s.fr)), tz⟩ := by
  have hx := List.mem_of_getElem? h.hx
  have ix := h.ln x hx
  have t1 := h.to1
  obtain ⟨d1, d2, d3⟩ := pur_done (d := tz - s.fr) (hE.pur x hx) h.hw (by omega) ix.ev1
  have hts : (setL l' k (doneL (tz - s.fr))).map (·.t) = l'.map (·.t) := by
    refine List.ext_getElem? fun j => ?_
    rw [List.getElem?_map, List.getElem?_map, setL_get]
    by_cases e : k = j
    · subst e; rw [if_pos rfl, h.hx]; simp [d2]
    · rw [if_neg e]
  refine ⟨fun y hy => ?_, by simp only; rw [hts]; exact hE.ld, fun D => ?_⟩
  · rcases setL_mem hy with hy | ⟨x', hx', rfl⟩
    · exact hE.pur y hy
    · rw [h.hx] at hx'; cases hx'; exact d1
  · simp only
    rw [sumD_set D h.hx, d3 D, ← h.du]
    have hd := hE.dem D
    simp only at hd
    by_cases c : D < due
    · rw [if_pos c]
      have z : wkD D x = 0 := by
        rcases hE.pur x hx with h0 | ⟨fi, ct, h0, _, _⟩
        · rw [h.hw] at h0; cases h0
        · have hw := h.hw
          rw [h0] at hw; cases hw
          have : due = fi + x.t.ev := h.du
          exact zero_line (by unfold fO; rw [h0]; simp only; omega)
      rw [z]
      have key : ∀ y ∈ l', wkD D y = 0 ∨ y.wt = [] ∧ tz ≤ y.nx ∧ y.nx + y.t.ev ≤ D := fun y hy => by
        obtain ⟨j, hj⟩ := List.mem_iff_getElem?.1 hy
        have jl := (List.getElem?_eq_some_iff.1 hj).1
        rcases hE.pur y hy with h0 | ⟨fi, ct, h0, _, _⟩
        · by_cases c2 : D < y.nx + y.t.ev
          · exact .inl (zero_line (by unfold fO; rw [h0]; exact c2))
          · refine .inr ⟨h0, ?_, by omega⟩
            have := toK_cut (j := best l') (to := s.fr + x.lf) _ (Nat.le_refl _) j jl y hj h0 (by rw [h.bj]; simp only; omega)
            have te := h.te
            omega
        · have := (bestK_min l' _ (Nat.le_refl _) j jl y _ _ hj h0).2
          have hb : bestK l' l'.length = ⟨due, r.t.rk, k⟩ := h.bj
          rw [hb] at this
          simp only at this
          exact .inl (zero_line (by unfold fO; rw [h0]; simp only; omega))
      by_cases c3 : tz ≤ D
      · have : sumD D l' ≤ D - tz := sum_ld (D := D) hE.ld c3 fun H hH hv y hy => by
          rcases key y hy with k0 | ⟨k1, k2, _⟩
          · rw [k0]
            have iy := h.ln y hy
            have : 0 ≤ y.t.lg * (H / y.t.ev) * (D - tz) := Int.mul_nonneg (Int.mul_nonneg (by have := iy.lg1; omega) (Int.ediv_nonneg (by omega) (by have := iy.ev1; omega))) (by omega)
            omega
          · exact idle_line (h.ln y hy) k1 k2 c3 hH (hv y hy)
        omega
      · have : sumD D l' = 0 := sum_zero fun y hy => by
          rcases key y hy with k0 | ⟨_, k2, k3⟩
          · exact k0
          · have := (h.ln y hy).ev1; omega
        omega
    · rw [if_neg c]; omega
end Pn
