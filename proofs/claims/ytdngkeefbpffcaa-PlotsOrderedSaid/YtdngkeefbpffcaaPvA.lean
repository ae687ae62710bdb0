import Derived.Test.YtdngkeefbpffcaaPlM
import Derived.Test.YtdngkeefbpffcaaFlN
set_option autoImplicit false
set_option linter.unusedVariables false
namespace Pl
open Lk
theorem ng_swap {a a' b b' : Nat} (h1 : Ng a a') (h2 : Ng b b') : Ng (fadd a b) (fadd b' a') := by
  by_cases ha : Nan a
  · exact .inl ⟨nan_fadd (.inl ha), nan_fadd (.inr (h1.nan.1 ha))⟩
  by_cases hb : Nan b
  · exact .inl ⟨nan_fadd (.inr hb), nan_fadd (.inl (h2.nan.1 hb))⟩
  have e1 := h1.ev ha
  have e2 := h2.ev hb
  rcases not_nan ha with fa | ia
  · rcases not_nan hb with fb | ib
    · obtain ⟨_, n1, v1, _⟩ := fadd_fin fa fb
      obtain ⟨_, n2, v2, _⟩ := fadd_fin (h2.fin.1 fb) (h1.fin.1 fa)
      refine ng_of n1 n2 ?_
      rw [v2, v1, e1, e2, ← rc_neg]; congr 1; grind
    · obtain ⟨n1, v1⟩ := fadd_fin_inf fa ib
      obtain ⟨n2, v2⟩ := fadd_inf_fin (h2.inf.1 ib) (h1.fin.1 fa)
      exact ng_of n1 n2 (by rw [v2, v1, e2])
  · rcases not_nan hb with fb | ib
    · obtain ⟨n1, v1⟩ := fadd_inf_fin ia fb
      obtain ⟨n2, v2⟩ := fadd_fin_inf (h2.fin.1 fb) (h1.inf.1 ia)
      exact ng_of n1 n2 (by rw [v2, v1, e1])
    · by_cases hs : ev a = ev b
      · obtain ⟨n1, v1⟩ := fadd_inf_same ia ib hs
        obtain ⟨n2, v2⟩ := fadd_inf_same (h2.inf.1 ib) (h1.inf.1 ia) (by rw [e1, e2, hs])
        exact ng_of n1 n2 (by rw [v2, v1, e2, hs])
      · exact .inl ⟨fadd_inf_other ia ib hs, fadd_inf_other (h2.inf.1 ib) (h1.inf.1 ia) (by rw [e1, e2]; grind)⟩
theorem ng_le {u v : Nat} (h : Ng u v) (m : Nat) : cle (fabs u) m = cle (fabs v) m := by
  rw [Bool.eq_iff_iff, cle_iff, cle_iff, nan_fabs, nan_fabs, ev_fabs, ev_fabs]
  by_cases hu : Nan u
  · have := h.nan.1 hu; simp [hu, this]
  · rw [h.ev hu, Rat.abs_neg]
    have : ¬ Nan v := fun q => hu (h.nan.2 q)
    simp [hu, this]
theorem dF_symm (x y m : Nat) : dF x y m = dF y x m := by
  unfold dF
  refine ng_le ?_ m
  rw [fsub_eq, fsub_eq]
  exact ng_swap (ng_fneg x) (ng_fneg y).symm
theorem near_symm (m s : Nat) (p q : Pt) : nearB m s p q = nearB m s q p := by
  unfold nearB
  rw [dF_symm p.range, dF_symm p.speed]
end Pl

set_option autoImplicit false
set_option linter.unusedVariables false
namespace Go.Proofs.Ytdngkeefbpffcaa
open Go.RowKit Lk Pl
/-- no two near so far -/
def Ap2 (l : List Pt) (m s i j : Nat) : Prop := ∀ x y, y < x → (x < i ∨ (x = i ∧ y < j)) → nearB m s (l.getD x pt0) (l.getD y pt0) = false
theorem Ap2.zero (l : List Pt) (m s : Nat) : Ap2 l m s 0 0 := fun x y h1 h2 => by omega
theorem Ap2.row {l : List Pt} {m s i : Nat} : Ap2 l m s i i ↔ Ap2 l m s (i + 1) 0 := ⟨fun h x y h1 h2 => h x y h1 (by omega), fun h x y h1 h2 => h x y h1 (by omega)⟩
theorem Ap2.step {l : List Pt} {m s i j : Nat} (hj : j < i) : Ap2 l m s i (j + 1) ↔ Ap2 l m s i j ∧ nearB m s (l.getD i pt0) (l.getD j pt0) = false :=
  ⟨fun h => ⟨fun x y h1 h2 => h x y h1 (by omega), h i j hj (by omega)⟩, fun ⟨h, k⟩ x y h1 h2 => by
    by_cases e : x = i ∧ y = j
    · rw [e.1, e.2]; exact k
    · exact h x y h1 (by omega)⟩
theorem ap_pair {l : List Pt} {m s n : Nat} (h : Ap2 l m s n 0) {x y : Nat} (hx : x < n) (hy : y < n) (e : x ≠ y) : nearB m s (l.getD x pt0) (l.getD y pt0) = false := by
  rcases Nat.lt_or_gt_of_ne e with c | c
  · rw [near_symm]; exact h y x c (by omega)
  · exact h x y c (by omega)
theorem ap_ord {l : List Pt} {m s n : Nat} (h : Ap2 l m s n 0) : (ordL (ltI l) n).Pairwise (fun i x => nr l (l.getD i pt0) m s x = false) := by
  obtain ⟨h1, h2, h3⟩ := ord_ok l n
  rw [List.pairwise_iff_getElem]
  intro i j hi hj hij
  have ne := srt_inj (ltI_wo l) h3 i j hij (by omega)
  unfold gd at ne
  rw [List.getD_eq_getElem?_getD, List.getD_eq_getElem?_getD, List.getElem?_eq_getElem hi, List.getElem?_eq_getElem hj] at ne
  exact ap_pair h (h2 _ (List.getElem_mem hj)) (h2 _ (List.getElem_mem hi)) (fun e => ne e.symm)
theorem ap_merge {l : List Pt} {m s n : Nat} (h : Ap2 l m s n 0) : mergeL l m s n (ordL (ltI l) n) = (ordL (ltI l) n).map fun i => (i, [pw l i]) :=
  merge_apart l m s n _ (by rw [(ord_ok l n).1]; exact Nat.le_refl _) (ap_ord h)
end Go.Proofs.Ytdngkeefbpffcaa

set_option autoImplicit false
set_option linter.unusedVariables false
namespace Go.Proofs.Ytdngkeefbpffcaa
open Go.RowKit Lk Pl
/-! rows of plots of one's own, read as plots in memory -/
theorem plv_get {L : List Pt} {j : Nat} {a : Pt} (h : L[j]? = some a) {q : Nat} {u : Value} (hu : (ptv a)[q]? = some u) : (plv L)[j * 5 + q]? = some u := by
  induction L generalizing j with
  | nil => simp at h
  | cons b L ih =>
    have e : plv (b :: L) = ptv b ++ plv L := by simp [plv]
    rw [e]
    have hq : q < 5 := by have := (List.getElem?_eq_some_iff.1 hu).1; simpa [ptv] using this
    cases j with
    | zero =>
      simp only [List.getElem?_cons_zero, Option.some.injEq] at h
      subst h
      rw [List.getElem?_append_left (by simp [ptv]; omega), ← hu]; simp
    | succ j =>
      rw [List.getElem?_cons_succ] at h
      rw [List.getElem?_append_right (by simp [ptv]; omega), ← ih h]
      congr 1
      simp [ptv]; omega
theorem sp_own {w : World} {B n : Nat} {v : Value} {L : List Pt} (h : w.ownsRow B 28 5 v n (plv L)) (lt : ∀ p ∈ L, PtLt p) : ∃ a cap, v = .slice a n cap ∧ Sp w a n cap L := by
  have hl := h.1
  rw [plv_len] at hl
  rcases h.2 with ⟨rfl, h0⟩ | ⟨g, cap, cur, rfl, hB, hb, h1, h2, _, h3⟩
  · subst h0; exact ⟨none, 0, rfl, by omega, Nat.le_refl _, by omega, lt, .inl rfl, fun _ => rfl⟩
  · refine ⟨_, cap, rfl, by omega, h1, by unfold maxLen at h2; omega, lt, .inr ⟨g, 0, rfl, (Array.getElem?_eq_some_iff.1 hb).1, fun j hj => ?_⟩, fun h => by cases h⟩
    have get : ∀ q u, q < 5 → (ptv L[j])[q]? = some u → w.cell? ⟨g, 0 + j * 5 + q, none⟩ = some u := fun q u hq hu => by
      have := plv_get (List.getElem?_eq_getElem hj) hu
      rw [← h3, List.getElem?_take, if_pos (by omega)] at this
      rw [cell_of_heap hb, ← this]; simp
    exact ⟨get 0 _ (by omega) rfl, get 1 _ (by omega) rfl, get 2 _ (by omega) rfl, get 3 _ (by omega) rfl, get 4 _ (by omega) rfl⟩
theorem ms_lt {l L : List Pt} {T : List (Nat × List Nat)} (h : Ms l L T) (hl : ∀ p ∈ l, PtLt p) : ∀ p ∈ L, PtLt p := fun p hp => by
  obtain ⟨k, hk⟩ := List.mem_iff_getElem?.1 hp
  have kl := (List.getElem?_eq_some_iff.1 hk).1
  obtain ⟨x, hx, _, hx2⟩ := h.2 k p _ hk (List.getElem?_eq_getElem (by rw [← h.1]; exact kl))
  have gl : PtLt (l.getD (T[k]'(by rw [← h.1]; exact kl)).1 pt0) := by
    rw [List.getD_eq_getElem?_getD]
    cases e : l[(T[k]'(by rw [← h.1]; exact kl)).1]? with
    | none => exact ⟨by decide, by decide, by decide, by decide, by decide⟩
    | some q => exact hl _ (List.mem_of_getElem? e)
  rw [hx]
  exact ⟨gl.range, gl.speed, hx2, gl.bearing, gl.time⟩
/-- where no two are near each is told as it is -/
theorem ms_apart {l L : List Pt} {m s n : Nat} (h : Ms l L (mergeL l m s n (ordL (ltI l) n))) (ap : Ap2 l m s n 0) {k x : Nat} {p q : Pt} (hx : (ordL (ltI l) n)[k]? = some x) (hp : L[k]? = some p) (hq : l[x]? = some q) :
    Is p.range q.range ∧ Is p.speed q.speed ∧ Is p.power q.power ∧ Is p.bearing q.bearing ∧ Is p.time q.time := by
  rw [ap_merge ap] at h
  obtain ⟨y, hy, hz, _⟩ := h.2 k p (x, [pw l x]) hp (by rw [List.getElem?_map, hx]; rfl)
  have e : l.getD x pt0 = q := by rw [List.getD_eq_getElem?_getD, hq]; rfl
  simp only [e] at hy hz
  have e2 : sumP [pw l x] = q.power := by unfold pw; rw [e]; rfl
  rw [hy]
  refine ⟨Is.refl _, Is.refl _, ?_, Is.refl _, Is.refl _⟩
  rw [e2] at hz; exact hz
end Go.Proofs.Ytdngkeefbpffcaa
