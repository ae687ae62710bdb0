import Derived.Test.YtoobpiednigcgaaSmP
import Derived.Test.YtoobpiednigcgaaFlN
set_option autoImplicit false
set_option linter.unusedVariables false
namespace Lk
open Go
/-! turned about -/
theorem getD_map {x : List Nat} {i : Nat} (h : i < x.length) : (x.map fneg).getD i 0 = fneg (x.getD i 0) := by
  simp [List.getD, h]
theorem slope_ng {t x : List Nat} {i : Nat} (h : i + 1 < x.length) : Ng (slope t x i) (slope t (x.map fneg) i) := by
  unfold slope
  rw [getD_map h, getD_map (show i < x.length by omega)]
  exact ng_div (ng_sub (ng_fneg _) (ng_fneg _)) _
theorem turnsAt_neg {t x : List Nat} {m i : Nat} (h1 : 1 ≤ i) (h : i + 1 < x.length) : turnsAt t (x.map fneg) m i = turnsAt t x m i := by
  unfold turnsAt
  exact (ng_gt (ng_sub (slope_ng h) (slope_ng (show i - 1 + 1 < x.length by omega))) m).symm
theorem finL_neg (x : List Nat) : finL (x.map fneg) = finL x := by
  unfold finL
  rw [List.all_map]
  congr 1
  funext a
  simp [fin_fneg]
theorem turnsE_neg (t x : List Nat) (m : Nat) : turnsE t (x.map fneg) m = turnsE t x m := by
  unfold turnsE
  rw [List.length_map, finL_neg]
theorem turnsE_zero {t x : List Nat} {m : Nat} (h : turnsE t x m = 0) : t.length = x.length ∧ t.length ≤ 1024 ∧ ¬ Nan m := by
  unfold turnsE at h
  split at h
  · omega
  · split at h
    · omega
    · split at h
      · omega
      · split at h
        · omega
        · exact ⟨by omega, by omega, by assumption⟩
theorem turnsR_neg (t x : List Nat) (m : Nat) : turnsR t (x.map fneg) m = turnsR t x m := by
  unfold turnsR
  rw [turnsE_neg]
  by_cases h : turnsE t x m = 0
  · rw [if_pos h, if_pos h]
    obtain ⟨hl, _, _⟩ := turnsE_zero h
    unfold turnsL turnsK
    refine List.filter_congr fun i hi => ?_
    have hi := List.mem_range.1 hi
    by_cases h1 : 1 ≤ i
    · rw [turnsAt_neg h1 (by omega)]
    · simp [h1]
  · rw [if_neg h, if_neg h]
/-! a greater measure -/
theorem gt_less {x a b : Nat} (h : cgt x b = true) (hab : cle a b = true) : cgt x a = true := by
  obtain ⟨h1, h2, h3⟩ := cgt_iff.1 h
  obtain ⟨g1, g2, g3⟩ := cle_iff.1 hab
  exact cgt_iff.2 ⟨h1, g1, by grind⟩
theorem turnsE_less {t x : List Nat} {a b : Nat} (hab : cle a b = true) (h : turnsE t x a = 0) : turnsE t x b = 0 := by
  obtain ⟨g1, g2, g3⟩ := cle_iff.1 hab
  unfold turnsE at h ⊢
  rw [if_neg g1] at h
  rw [if_neg g2]
  exact h
theorem turns_sub {t x : List Nat} {a b : Nat} (hab : cle a b = true) (h : turnsE t x a = 0) : ∀ i ∈ turnsR t x b, i ∈ turnsR t x a := by
  intro i hi
  unfold turnsR at hi ⊢
  rw [if_pos (turnsE_less hab h)] at hi
  rw [if_pos h]
  unfold turnsL turnsK at hi ⊢
  rw [List.mem_filter] at hi ⊢
  refine ⟨hi.1, ?_⟩
  have h2 := hi.2
  rw [Bool.and_eq_true] at h2 ⊢
  exact ⟨h2.1, gt_less h2.2 hab⟩
theorem turns_up (t x : List Nat) (m : Nat) : (turnsR t x m).Pairwise (· < ·) := by
  unfold turnsR
  split
  · unfold turnsL turnsK
    exact List.pairwise_lt_range.filter _
  · exact List.Pairwise.nil
theorem turns_bd {t x : List Nat} {m : Nat} : ∀ i ∈ turnsR t x m, i ≤ 1024 := by
  intro i hi
  unfold turnsR at hi
  split at hi
  · rename_i h
    have := (turnsE_zero h).2.1
    unfold turnsL turnsK at hi
    have := List.mem_range.1 (List.mem_filter.1 hi).1
    omega
  · cases hi
/-- the merge of two lists that rise, the second one's numbers all among the first one's -/
structure Mg2 (c d : List Nat) (j k : Nat) : Prop where
  le : k ≤ c.length
  pre : ∀ q, q < k → ∀ v, c[q]? = some v → ∀ p u, j ≤ p → d[p]? = some u → v < u
theorem mg2_start (c d : List Nat) : Mg2 c d 0 0 := ⟨Nat.zero_le _, fun q h => by omega⟩
theorem up_at {l : List Nat} (h : l.Pairwise (· < ·)) {i j x y : Nat} (hi : l[i]? = some x) (hj : l[j]? = some y) (hij : i < j) : x < y := by
  obtain ⟨h1, e1⟩ := List.getElem?_eq_some_iff.1 hi
  obtain ⟨h2, e2⟩ := List.getElem?_eq_some_iff.1 hj
  have := List.pairwise_iff_getElem.1 h i j h1 h2 hij
  rwa [e1, e2] at this
/-- one number further on -/
theorem mg2_next {c d : List Nat} {j k v u : Nat} (hd : d.Pairwise (· < ·)) (h : Mg2 c d j k) (hk : c[k]? = some v) (hu : d[j]? = some u) (hvu : v < u) : Mg2 c d j (k + 1) := by
  have kl := (List.getElem?_eq_some_iff.1 hk).1
  refine ⟨by omega, fun q hq v' hv' p u' hp hu' => ?_⟩
  by_cases e : q < k
  · exact h.pre q e v' hv' p u' hp hu'
  · have : q = k := by omega
    subst this
    rw [hk] at hv'; cases hv'
    by_cases e2 : p = j
    · subst e2; rw [hu] at hu'; cases hu'; exact hvu
    · have := up_at hd hu hu' (by omega); omega
/-- where the walk stands the number is found -/
theorem mg2_found {c d : List Nat} {j k u : Nat} (hc : c.Pairwise (· < ·)) (hs : ∀ i ∈ d, i ∈ c) (h : Mg2 c d j k) (hu : d[j]? = some u) (hstop : ∀ v, c[k]? = some v → ¬ v < u) : c[k]? = some u := by
  obtain ⟨p, hp⟩ := List.mem_iff_getElem?.1 (hs u (List.mem_of_getElem? hu))
  have pl := (List.getElem?_eq_some_iff.1 hp).1
  rcases Nat.lt_trichotomy p k with g | g | g
  · have := h.pre p g u hp j u (Nat.le_refl _) hu; omega
  · subst g; exact hp
  · have kl : k < c.length := by omega
    have hk := List.getElem?_eq_getElem kl
    have := up_at hc hk hp g
    exact absurd this (hstop _ hk)
theorem mg2_step {c d : List Nat} {j k : Nat} (h : Mg2 c d j k) : Mg2 c d (j + 1) k := ⟨h.le, fun q hq v hv p u hp hu => h.pre q hq v hv p u (by omega) hu⟩
/-! states from behind may be -/
theorem nnF_ge {x : Nat} (h : Fin x) : Fin (nnF x) ∧ cge (nnF x) 0 = true := by
  unfold nnF
  split
  · exact ⟨by decide +kernel, by decide +kernel⟩
  · rename_i hn
    refine ⟨h, cge_iff.2 ⟨h.not_nan, by decide +kernel, ?_⟩⟩
    have e0 : ev 0 = 0 := by decide +kernel
    rw [e0]
    apply Decidable.byContradiction
    intro g
    exact hn (clt_iff.2 ⟨h.not_nan, by decide +kernel, by rw [e0]; grind⟩)
theorem nnF_fin {x : Nat} (h : Fin (nnF x)) : cge (nnF x) 0 = true := by
  unfold nnF at h ⊢
  split
  · decide +kernel
  · rename_i hn
    rw [if_neg hn] at h
    have := (nnF_ge h).2
    unfold nnF at this
    rwa [if_neg hn] at this
theorem step_may {s n : St} {dt q : Nat} (h : mayF s = true) : mayF (stepF s dt q n) = true := by
  unfold stepF
  split
  · split
    · rename_i hf
      generalize aheadF s dt q = p at hf ⊢
      unfold gainF nnS at hf ⊢
      unfold finS at hf
      simp only [Bool.and_eq_true, decide_eq_true_eq] at hf
      obtain ⟨⟨⟨⟨f1, f2⟩, f3⟩, f4⟩, f5⟩ := hf
      unfold mayF
      simp only [Bool.and_eq_true, decide_eq_true_eq]
      exact ⟨⟨⟨⟨⟨⟨f1, f2⟩, f3⟩, f4⟩, f5⟩, nnF_fin f3⟩, nnF_fin f5⟩
    · exact h
  · exact h
theorem bk_may {l : List St} {sec : List Nat} {q : Nat} (h : l.all mayF = true) : ∀ k, k < l.length → mayF (bkF l sec q k) = true
  | 0, hk => by
    unfold bkF
    rw [List.getD_eq_getElem?_getD, List.getElem?_eq_getElem (by omega)]
    exact List.all_eq_true.1 h _ (List.getElem_mem _)
  | k + 1, hk => by
    unfold bkF
    refine step_may ?_
    rw [List.getD_eq_getElem?_getD, List.getElem?_eq_getElem (by omega)]
    exact List.all_eq_true.1 h _ (List.getElem_mem _)
theorem backE_zero {l : List St} {sec : List Nat} {q : Nat} (h : backE l sec q = 0) : l.length ≤ 1024 ∧ l.all mayF = true := by
  unfold backE at h
  split at h
  · omega
  · split at h
    · omega
    · split at h
      · omega
      · rename_i g
        exact ⟨by omega, by simpa using g⟩
theorem back_len (l : List St) (sec : List Nat) (q : Nat) : (backL l sec q).length = l.length := by unfold backL; simp
theorem back_may {l : List St} {sec : List Nat} {q : Nat} (h : backE l sec q = 0) : ∀ s ∈ backL l sec q, mayF s = true := by
  intro s hs
  unfold backL at hs
  obtain ⟨i, hi, rfl⟩ := List.mem_map.1 hs
  have := List.mem_range.1 hi
  exact bk_may (backE_zero h).2 _ (by omega)
theorem back_last {l : List St} {sec : List Nat} {q n : Nat} (h : l.length = n + 1) : (backL l sec q)[n]? = l[n]? := by
  unfold backL
  rw [List.getElem?_map, List.getElem?_range (by omega)]
  simp only [Option.map_some]
  rw [h, show n + 1 - 1 - n = 0 by omega]
  unfold bkF
  rw [h, Nat.add_sub_cancel, List.getD_eq_getElem?_getD, List.getElem?_eq_getElem (by omega)]; rfl
theorem fadd_lt (x y : Nat) : fadd x y < 2 ^ 64 := by
  by_cases hx : Nan x
  · unfold fadd; rw [add_nan (.inl hx)]; decide
  by_cases hy : Nan y
  · unfold fadd; rw [add_nan (.inr hy)]; decide
  rcases not_nan hx with fx | ix
  · rcases not_nan hy with fy | iy
    · exact (fadd_fin fx fy).1
    · unfold fadd; rw [add_fin_inf fx iy]; exact wd_lt _ (Nat.le_refl _)
  · rcases not_nan hy with fy | iy
    · unfold fadd; rw [add_inf_fin ix fy]; exact wd_lt _ (Nat.le_refl _)
    · unfold fadd; rw [add_inf_inf ix iy]
      split
      · exact wd_lt _ (Nat.le_refl _)
      · decide
theorem nnF_lt {x : Nat} (h : x < 2 ^ 64) : nnF x < 2 ^ 64 := by unfold nnF; split; decide; exact h
theorem step_lt {s n : St} {dt q : Nat} (h : St.Lt s) : St.Lt (stepF s dt q n) := by
  unfold stepF
  split
  · split
    · generalize aheadF s dt q = p
      unfold gainF nnS gain0F
      exact ⟨fadd_lt _ _, fadd_lt _ _, nnF_lt (fadd_lt _ _), fadd_lt _ _, nnF_lt (fadd_lt _ _)⟩
    · exact h
  · exact h
theorem bk_lt {l : List St} {sec : List Nat} {q : Nat} (h : ∀ s ∈ l, St.Lt s) : ∀ k, k < l.length → St.Lt (bkF l sec q k)
  | 0, hk => by
    unfold bkF
    rw [List.getD_eq_getElem?_getD, List.getElem?_eq_getElem (by omega)]
    exact h _ (List.getElem_mem _)
  | k + 1, hk => by
    unfold bkF
    refine step_lt ?_
    rw [List.getD_eq_getElem?_getD, List.getElem?_eq_getElem (by omega)]
    exact h _ (List.getElem_mem _)
theorem back_lt {l : List St} {sec : List Nat} {q : Nat} (h : ∀ s ∈ l, St.Lt s) : ∀ s ∈ backL l sec q, St.Lt s := by
  intro s hs
  unfold backL at hs
  obtain ⟨i, hi, rfl⟩ := List.mem_map.1 hs
  have := List.mem_range.1 hi
  exact bk_lt h _ (by omega)
end Lk
