import Derived.Test.YtgdkmakmdomdbaaPnI
set_option autoImplicit false
namespace Pn
theorem RnOk.mono {r : Rn} {a b : Int} (h : RnOk r a) (hab : a ≤ b) : RnOk r b := ⟨h.ev1, h.ev2, h.lg1, h.lg2, h.fi0, h.ct1, Int.le_trans h.le hab⟩
theorem InL.mono {K : Nat} {a b : Int} {x : Ln} (h : InL K a x) (hab : a ≤ b) : InL K b x :=
  ⟨h.ev1, h.ev2, h.lg1, h.lg2, h.nx0, by have := h.nx1; omega, h.lf0, h.lf1, h.lfp, h.wm, h.rn⟩
theorem popW_cons (a : Rn) (w : List Rn) : popW (a :: w) = if a.ct - 1 = 0 then w else ⟨a.t, a.fi + a.t.ev, a.ct - 1⟩ :: w := rfl
theorem popW_ok {l : List Rn} {nx : Int} (h : ∀ r ∈ l, RnOk r nx) : ∀ r ∈ popW l, RnOk r nx := by
  cases l with
  | nil => intro r hr; simp [popW] at hr
  | cons a w =>
    intro r hr
    rw [popW_cons] at hr
    split at hr
    · exact h r (by simp [hr])
    · rename_i hne
      rcases List.mem_cons.1 hr with rfl | hr
      · obtain ⟨a1, a2, a3, a4, a5, a6, a7⟩ := h a (by simp)
        refine ⟨a1, a2, a3, a4, by simp only; omega, by simp only; omega, ?_⟩
        simp only
        rw [Int.sub_mul, Int.one_mul]
        omega
      · exact h r (by simp [hr])
theorem mW_pop (x : Ln) : ∀ (y : Ln), y.t = x.t → y.wt = popW x.wt → mW y ≤ mW x := by
  intro y ht hy
  unfold mW
  rw [hy, ht]
  cases hx : x.wt with
  | nil => simp [popW]
  | cons a w =>
    rw [popW_cons]
    split
    · cases w with
      | nil => simp
      | cons b w => simp [List.getLast?_cons_cons]
    · cases w with
      | nil => simp
      | cons b w => simp [List.getLast?_cons_cons]
theorem InL.done {K : Nat} {now d : Int} {x : Ln} (h : InL K now x) (d0 : 0 ≤ d) (d1 : d ≤ x.lf) : InL K now (doneL d x) := by
  have l1 := h.lf1
  unfold doneL
  split
  · rename_i hp
    exact ⟨h.ev1, h.ev2, h.lg1, h.lg2, h.nx0, h.nx1, by simp only; omega, by simp only; omega, fun _ => by simp only; omega, h.wm, h.rn⟩
  · rename_i hp
    have hok := popW_ok h.rn
    split
    · rename_i hw
      exact ⟨h.ev1, h.ev2, h.lg1, h.lg2, h.nx0, h.nx1, by simp only; omega, by simp only; omega, fun e => absurd rfl e, Nat.le_trans (mW_pop x _ rfl hw.symm) h.wm, fun r hr => by simp at hr⟩
    · rename_i r w hw
      have hr := hok r (by rw [hw]; simp)
      exact ⟨h.ev1, h.ev2, h.lg1, h.lg2, h.nx0, h.nx1, by have := hr.lg1; simp only; omega, by have := hr.lg2; have := hr.ev2; simp only; omega, fun _ => hr.lg1, Nat.le_trans (mW_pop x _ rfl hw.symm) h.wm, fun q hq => hok q (by rw [hw]; exact hq)⟩
theorem setL_get (l : List Ln) (k : Nat) (f : Ln → Ln) (j : Nat) : (setL l k f)[j]? = if k = j then (l[j]?).map f else l[j]? := by
  unfold setL; rw [Int.toNat_natCast, List.getElem?_modify]
  by_cases h : k = j <;> simp [h]
theorem setL_mem {l : List Ln} {k : Nat} {f : Ln → Ln} {y : Ln} (h : y ∈ setL l k f) : y ∈ l ∨ ∃ x, l[k]? = some x ∧ y = f x := by
  obtain ⟨j, hj⟩ := List.mem_iff_getElem?.1 h
  rw [setL_get] at hj
  by_cases e : k = j
  · subst e
    rw [if_pos rfl] at hj
    obtain ⟨x, hx, rfl⟩ := Option.map_eq_some_iff.1 hj
    exact .inr ⟨x, hx, rfl⟩
  · rw [if_neg e] at hj
    exact .inl (List.mem_of_getElem? hj)
theorem setL_len (l : List Ln) (k : Int) (f : Ln → Ln) : (setL l k f).length = l.length := by unfold setL; simp
theorem rel_length (T : Int) (l : List Ln) : (rel T l).length = l.length := by unfold rel; simp
/-- what a stretch is -/
structure StrOk (K : Nat) (now lim : Int) (l' : List Ln) (s : Sl) (due : Int) (k : Nat) (x : Ln) (r : Rn) (ws : List Rn) : Prop where
  tk : s.task = (k : Int)
  hx : l'[k]? = some x
  hw : x.wt = r :: ws
  fr0 : now ≤ s.fr
  fr1 : s.fr ≤ lim
  fr2 : now < lim → s.fr < lim
  to0 : s.fr < s.to
  to1 : s.to ≤ s.fr + x.lf
  du : due = r.fi + r.t.ev
  lt : s.late = decide (due < s.to)
  ln : ∀ y ∈ l', InL K s.fr y
  nx : ∀ y ∈ l', s.fr < y.nx
  bj : best l' = ⟨due, r.t.rk, k⟩
  te : s.to = toK l' (best l') (s.fr + x.lf) l'.length
theorem sl_ok {K : Nat} {now lim fr : Int} {l' : List Ln} (h : ∀ y ∈ l', InL K fr y) (hn : ∀ y ∈ l', fr < y.nx) (hb : ¬ (best l').task < 0) (h1 : now ≤ fr) (h2 : fr ≤ lim) (h3 : now < lim → fr < lim) :
    ∃ k x r ws, StrOk K now lim l' (slOf l' (best l') fr) (best l').due k x r ws := by
  rcases best_idx l' with ⟨e, _⟩ | ⟨k, hk, e, x, r, ws, hx, hw, hbe⟩
  · omega
  · have ix := h x (List.mem_of_getElem? hx)
    have lp := ix.lfp (by rw [hw]; simp)
    have hlf : lfAt l' (best l').task = x.lf := by unfold lfAt; rw [e]; simp only [Int.toNat_natCast, hx]
    refine ⟨k, x, r, ws, e, hx, hw, h1, h2, h3, ?_, ?_, by rw [hbe], rfl, h, hn, by rw [hbe], ?_⟩
    · simp only [slOf, toOf, hlf]
      exact toK_gt (by omega) hn _
    · simp only [slOf, toOf, hlf]
      exact toK_le _
    · simp only [slOf, toOf, hlf]
theorem rel_nx {K : Nat} {now T : Int} {l : List Ln} (h : ∀ x ∈ l, InL K now x) : ∀ x ∈ rel T l, T < x.nx := by
  intro x hx
  obtain ⟨y, hy, rfl⟩ := List.mem_map.1 hx
  exact rel_next (h y hy).ev1
theorem idle_best' {l : List Ln} {lim fr : Int} (h : minK l lim l.length = fr) (h3 : fr ≠ lim) : ¬ (best (rel fr l)).task < 0 := by
  rcases minK_is (l := l) (lim := lim) l.length (Nat.le_refl _) with h1 | ⟨x, hx, h1⟩
  · exact absurd (h.symm.trans h1) h3
  · rw [h] at h1
    rcases best_idx (rel fr l) with ⟨_, h2⟩ | ⟨i, _, h2, _⟩
    · have := h2 (relL fr x) (List.mem_map_of_mem hx)
      unfold relL relW at this
      rw [if_neg (by omega)] at this
      simp only at this
      split at this
      · simp at this
      · split at this <;> simp at this
    · omega
theorem str_some {K : Nat} {l l' : List Ln} {now lim due : Int} {s : Sl} (h : ∀ x ∈ l, InL K now x) (hK : 1 ≤ K) (hlim : now ≤ lim) (e : strL l now lim = (l', some (s, due))) :
    ∃ k x r ws, StrOk K now lim l' s due k x r ws := by
  have i1 := rel_inv h (Int.le_refl now) hK
  have n1 := rel_nx (T := now) h
  unfold strL at e
  split at e
  · split at e
    · cases e
    · rename_i hneg hne
      have a1 : now ≤ minK (rel now l) lim l.length := minK_ge hlim (fun x hx => Int.le_of_lt (n1 x hx)) _
      have a2 : minK (rel now l) lim l.length ≤ lim := minK_le _
      have hb := idle_best' (l := rel now l) (lim := lim) (fr := minK (rel now l) lim l.length) (by rw [rel_length]) hne
      cases e
      exact sl_ok (rel_inv i1 a1 hK) (rel_nx (T := minK (rel now l) lim l.length) i1) hb a1 a2 (fun _ => by omega)
  · rename_i hneg
    cases e
    exact sl_ok i1 n1 hneg (Int.le_refl _) hlim (fun h => h)
theorem str_none_inv {K : Nat} {l l' : List Ln} {now lim : Int} (h : ∀ x ∈ l, InL K now x) (hK : 1 ≤ K) (e : strL l now lim = (l', none)) : ∀ x ∈ l', InL K now x := by
  unfold strL at e
  split at e
  · split at e
    · cases e; exact rel_inv h (Int.le_refl now) hK
    · cases e
  · cases e
theorem StrOk.done {K : Nat} {now lim due tz : Int} {l' : List Ln} {s : Sl} {k : Nat} {x : Ln} {r : Rn} {ws : List Rn} (h : StrOk K now lim l' s due k x r ws) (h1 : s.fr < tz) (h2 : tz ≤ s.to) : ∀ y ∈ setL l' k (doneL (tz - s.fr)), InL K tz y := by
  intro y hy
  rcases setL_mem hy with hy | ⟨x', hx', rfl⟩
  · exact (h.ln y hy).mono (Int.le_of_lt h1)
  · rw [h.hx] at hx'; cases hx'
    exact ((h.ln x (List.mem_of_getElem? h.hx)).mono (Int.le_of_lt h1)).done (by omega) (by have := h.to1; omega)
theorem cutS_fr (tick due : Int) (s : Sl) : (cutS tick due s).fr = s.fr ∧ (cutS tick due s).task = s.task := by unfold cutS; split <;> exact ⟨rfl, rfl⟩
theorem cutS_to {tick due : Int} {s : Sl} (h : s.fr < tick) (h2 : s.fr < s.to) : s.fr < (cutS tick due s).to ∧ (cutS tick due s).to ≤ s.to ∧ (cutS tick due s).to ≤ tick := by unfold cutS; split <;> (try simp only) <;> omega
end Pn
