import Derived.Test.YtgdkmakmdomdbaaPnA
set_option autoImplicit false
namespace Pn
/-! what stays true of the lines -/
def mW (x : Ln) : Nat := x.wt.length + match x.wt.getLast? with
  | none => 0
  | some r => if tkEq r.t x.t then 0 else 1
structure RnOk (r : Rn) (nx : Int) : Prop where
  ev1 : 1 ≤ r.t.ev
  ev2 : r.t.ev ≤ 1099511627776
  lg1 : 1 ≤ r.t.lg
  lg2 : r.t.lg ≤ r.t.ev
  fi0 : 0 ≤ r.fi
  ct1 : 1 ≤ r.ct
  le : r.fi + r.ct * r.t.ev ≤ nx
structure InL (K : Nat) (now : Int) (x : Ln) : Prop where
  ev1 : 1 ≤ x.t.ev
  ev2 : x.t.ev ≤ 1099511627776
  lg1 : 1 ≤ x.t.lg
  lg2 : x.t.lg ≤ x.t.ev
  nx0 : 0 ≤ x.nx
  nx1 : x.nx ≤ now + 1099511627776
  lf0 : 0 ≤ x.lf
  lf1 : x.lf ≤ 1099511627776
  lfp : x.wt ≠ [] → 1 ≤ x.lf
  wm : mW x ≤ K
  rn : ∀ r ∈ x.wt, RnOk r x.nx
structure Inv (K : Nat) (p : Pl) : Prop where
  n0 : 0 ≤ p.now
  n1 : p.now ≤ 1152921504606846976
  ln : ∀ x ∈ p.l, InL K p.now x
theorem mayT_iff {t : Tk} : mayT t = true ↔ 1 ≤ t.ev ∧ t.ev ≤ 1099511627776 ∧ 1 ≤ t.lg ∧ t.lg ≤ t.ev := by
  unfold mayT LONG; simp [and_assoc]
theorem wl_le {K : Nat} {now : Int} {x : Ln} (h : InL K now x) : x.wt.length ≤ K := by
  have := h.wm; unfold mW at this; omega
theorem nil_snoc (l : List Rn) : l = [] ∨ ∃ ws r, l = ws ++ [r] := (List.eq_nil_or_concat l).imp id fun ⟨a, b, h⟩ => ⟨a, b, by rw [h, List.concat_eq_append]⟩
theorem relE_no {T : Int} {x : Ln} (h : T < x.nx) : relL T x = x := by unfold relL; rw [if_pos h]
theorem relE_none {T : Int} {x : Ln} (h : ¬ T < x.nx) (h0 : x.wt = []) : relL T x = ⟨x.t, x.nx + relN T x * x.t.ev, [⟨x.t, x.nx, relN T x⟩], x.t.lg⟩ := by
  unfold relL relW; rw [if_neg h, h0]; rfl
theorem relE_same {T : Int} {x : Ln} {ws : List Rn} {r : Rn} (h : ¬ T < x.nx) (h0 : x.wt = ws ++ [r]) (he : r.t = x.t) : relL T x = ⟨x.t, x.nx + relN T x * x.t.ev, ws ++ [⟨r.t, r.fi, r.ct + relN T x⟩], x.lf⟩ := by
  unfold relL relW; rw [if_neg h, h0]
  simp [he, tkEq_iff.2 rfl]
theorem relE_new {T : Int} {x : Ln} {ws : List Rn} {r : Rn} (h : ¬ T < x.nx) (h0 : x.wt = ws ++ [r]) (he : r.t ≠ x.t) : relL T x = ⟨x.t, x.nx + relN T x * x.t.ev, x.wt ++ [⟨x.t, x.nx, relN T x⟩], x.lf⟩ := by
  unfold relL relW; rw [if_neg h, h0]
  have : tkEq r.t x.t = false := by rw [Bool.eq_false_iff]; exact fun e => he (tkEq_iff.1 e)
  simp [this]
theorem relN_bd {T : Int} {x : Ln} (h : ¬ T < x.nx) (e1 : 1 ≤ x.t.ev) : 1 ≤ relN T x ∧ relN T x * x.t.ev ≤ T - x.nx + x.t.ev ∧ T < x.nx + relN T x * x.t.ev := by
  unfold relN
  have h1 : 0 ≤ (T - x.nx) / x.t.ev := Int.ediv_nonneg (by omega) (by omega)
  have h2 := Int.ediv_mul_le (T - x.nx) (b := x.t.ev) (by omega)
  have h3 := Int.lt_ediv_add_one_mul_self (T - x.nx) (b := x.t.ev) (by omega)
  rw [Int.add_mul, Int.one_mul] at *
  omega
theorem InL.rel {K : Nat} {now T : Int} {x : Ln} (h : InL K now x) (hT : now ≤ T) (hK : 1 ≤ K) : InL K T (relL T x) := by
  by_cases hg : T < x.nx
  · rw [relE_no hg]
    exact ⟨h.ev1, h.ev2, h.lg1, h.lg2, h.nx0, by have := h.nx1; omega, h.lf0, h.lf1, h.lfp, h.wm, h.rn⟩
  · obtain ⟨n1, n2, n3⟩ := relN_bd hg h.ev1
    have p0 : 0 ≤ relN T x * x.t.ev := Int.mul_nonneg (by omega) (by have := h.ev1; omega)
    have a0 := h.nx0
    have a1 := h.nx1
    have a2 := h.ev2
    have wm := h.wm
    have new : RnOk ⟨x.t, x.nx, relN T x⟩ (x.nx + relN T x * x.t.ev) := ⟨h.ev1, h.ev2, h.lg1, h.lg2, h.nx0, n1, Int.le_refl _⟩
    have old : ∀ r ∈ x.wt, RnOk r (x.nx + relN T x * x.t.ev) := fun r hr => by
      obtain ⟨q1, q2, q3, q4, q5, q6, q7⟩ := h.rn r hr
      exact ⟨q1, q2, q3, q4, q5, q6, by omega⟩
    rcases nil_snoc x.wt with h0 | ⟨ws, r, h0⟩
    · rw [relE_none hg h0]
      refine ⟨h.ev1, h.ev2, h.lg1, h.lg2, by simp only; omega, by simp only; omega, by have := h.lg1; simp only; omega, by have := h.lg2; simp only; omega, fun _ => h.lg1, ?_, fun r hr => ?_⟩
      · unfold mW; simp [tkEq_iff.2 rfl]; omega
      · simp only [List.mem_singleton] at hr
        subst hr; exact new
    · have hne : x.wt ≠ [] := by rw [h0]; simp
      by_cases he : r.t = x.t
      · rw [relE_same hg h0 he]
        refine ⟨h.ev1, h.ev2, h.lg1, h.lg2, by simp only; omega, by simp only; omega, h.lf0, h.lf1, fun _ => h.lfp hne, ?_, fun q hq => ?_⟩
        · unfold mW at wm ⊢; rw [h0] at wm; simp [he, tkEq_iff.2 rfl] at wm ⊢; omega
        · simp only [List.mem_append, List.mem_singleton] at hq
          rcases hq with hq | rfl
          · exact old q (by rw [h0]; simp [hq])
          · obtain ⟨q1, q2, q3, q4, q5, q6, q7⟩ := h.rn r (by rw [h0]; simp)
            refine ⟨q1, q2, q3, q4, q5, by simp only; omega, ?_⟩
            simp only
            rw [Int.add_mul, he] at *
            omega
      · rw [relE_new hg h0 he]
        refine ⟨h.ev1, h.ev2, h.lg1, h.lg2, by simp only; omega, by simp only; omega, h.lf0, h.lf1, fun _ => h.lfp hne, ?_, fun q hq => ?_⟩
        · have hf : tkEq r.t x.t = false := by rw [Bool.eq_false_iff]; exact fun e => he (tkEq_iff.1 e)
          unfold mW at wm ⊢; rw [h0] at wm ⊢; simp [hf, tkEq_iff.2 rfl] at wm ⊢; omega
        · simp only [List.mem_append, List.mem_singleton] at hq
          rcases hq with hq | rfl
          · exact old q hq
          · exact new
theorem rel_inv {K : Nat} {now T : Int} {l : List Ln} (h : ∀ x ∈ l, InL K now x) (hT : now ≤ T) (hK : 1 ≤ K) : ∀ x ∈ rel T l, InL K T x := by
  intro x hx
  obtain ⟨y, hy, rfl⟩ := List.mem_map.1 hx
  exact (h y hy).rel hT hK
theorem rel_next {T : Int} {x : Ln} (e1 : 1 ≤ x.t.ev) : T < (relL T x).nx := by
  by_cases hg : T < x.nx
  · rw [relE_no hg]; exact hg
  · have := (relN_bd hg e1).2.2
    unfold relL; rw [if_neg hg]; exact this
/-! the best job -/
theorem bestK_idx (l : List Ln) : ∀ k, k ≤ l.length → (bestK l k).task = -1 ∧ (∀ i < k, ∀ x, l[i]? = some x → x.wt = []) ∨ ∃ i < k, (bestK l k).task = (i : Int) ∧ ∃ x r ws, l[i]? = some x ∧ x.wt = r :: ws ∧ bestK l k = ⟨r.fi + r.t.ev, r.t.rk, i⟩
  | 0, _ => .inl ⟨rfl, fun i hi => by omega⟩
  | k + 1, hk => by
    have hx : l[k]? = some l[k] := List.getElem?_eq_getElem (by omega)
    have e : bestK l (k + 1) = bstep (bestK l k) k l[k] := by simp only [bestK, hx]
    have ih := bestK_idx l k (by omega)
    rw [e]
    cases hw : l[k].wt with
    | nil =>
      have e2 : bstep (bestK l k) k l[k] = bestK l k := by simp only [bstep, hw]
      rw [e2]
      rcases ih with ⟨h1, h2⟩ | ⟨i, hi, h1, h2⟩
      · refine .inl ⟨h1, fun i hi x hx' => ?_⟩
        by_cases e3 : i = k
        · subst e3; rw [hx] at hx'; cases hx'; exact hw
        · exact h2 i (by omega) x hx'
      · exact .inr ⟨i, by omega, h1, h2⟩
    | cons r ws =>
      have e2 : bstep (bestK l k) k l[k] = if (bestK l k).task < 0 || bef ⟨r.fi + r.t.ev, r.t.rk, k⟩ (bestK l k) then ⟨r.fi + r.t.ev, r.t.rk, k⟩ else bestK l k := by simp only [bstep, hw]
      rw [e2]
      right
      split
      · exact ⟨k, by omega, rfl, _, r, ws, hx, hw, rfl⟩
      · rename_i hn
        rcases ih with ⟨h1, _⟩ | ⟨i, hi, h1, h2⟩
        · rw [h1] at hn; simp at hn
        · exact ⟨i, by omega, h1, h2⟩
theorem best_idx (l : List Ln) : (best l).task = -1 ∧ (∀ x ∈ l, x.wt = []) ∨ ∃ i, i < l.length ∧ (best l).task = (i : Int) ∧ ∃ x r ws, l[i]? = some x ∧ x.wt = r :: ws ∧ best l = ⟨r.fi + r.t.ev, r.t.rk, i⟩ := by
  rcases bestK_idx l l.length (Nat.le_refl _) with ⟨h1, h2⟩ | ⟨i, hi, h⟩
  · refine .inl ⟨h1, fun x hx => ?_⟩
    obtain ⟨i, hi⟩ := List.mem_iff_getElem?.1 hx
    exact h2 i (List.getElem?_eq_some_iff.1 hi).1 x hi
  · exact .inr ⟨i, hi, h⟩
theorem minK_le {l : List Ln} {lim : Int} : ∀ k, minK l lim k ≤ lim
  | 0 => Int.le_refl _
  | k + 1 => by
    have := minK_le (l := l) (lim := lim) k
    unfold minK; split <;> omega
theorem minK_ge {l : List Ln} {lim b : Int} (h : b ≤ lim) (hl : ∀ x ∈ l, b ≤ x.nx) : ∀ k, b ≤ minK l lim k
  | 0 => h
  | k + 1 => by
    have := minK_ge h hl k
    unfold minK; split
    · rename_i x hx
      have := hl x (List.mem_of_getElem? hx); omega
    · exact this
theorem minK_is {l : List Ln} {lim : Int} : ∀ k, k ≤ l.length → minK l lim k = lim ∨ ∃ x ∈ l, x.nx = minK l lim k
  | 0, _ => .inl rfl
  | k + 1, hk => by
    have hx : l[k]? = some l[k] := List.getElem?_eq_getElem (by omega)
    have e : minK l lim (k + 1) = min (minK l lim k) l[k].nx := by simp only [minK, hx]
    rw [e]
    by_cases h : l[k].nx ≤ minK l lim k
    · exact .inr ⟨l[k], List.getElem_mem _, by omega⟩
    · rw [Int.min_eq_left (by omega)]
      exact minK_is k (by omega)
theorem toK_le {l : List Ln} {j : Job} {to : Int} : ∀ k, toK l j to k ≤ to
  | 0 => Int.le_refl _
  | k + 1 => by
    have := toK_le (l := l) (j := j) (to := to) k
    unfold toK tstep; split
    · split <;> omega
    · exact this
theorem toK_gt {l : List Ln} {j : Job} {to b : Int} (h : b < to) (hl : ∀ x ∈ l, b < x.nx) : ∀ k, b < toK l j to k
  | 0 => h
  | k + 1 => by
    have := toK_gt (j := j) h hl k
    unfold toK tstep; split
    · rename_i x hx
      have := hl x (List.mem_of_getElem? hx)
      split <;> omega
    · exact this
end Pn
