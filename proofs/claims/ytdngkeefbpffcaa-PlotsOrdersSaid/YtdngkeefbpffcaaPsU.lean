import Derived.Test.YtdngkeefbpffcaaPlQ
import Derived.Test.YtdngkeefbpffcaaPlI
import Derived.Test.YtdngkeefbpffcaaFlX
import Derived.Test.YtdngkeefbpffcaaPlM
set_option autoImplicit false
set_option linter.unusedVariables false
namespace Go.Proofs.Ytdngkeefbpffcaa
open Go.RowKit Lk Pl
theorem merge_apart (l : List Pt) (m s : Nat) : ∀ (f : Nat) (o : List Nat), o.length ≤ f → o.Pairwise (fun i x => nr l (l.getD i pt0) m s x = false) → mergeL l m s f o = o.map fun i => (i, [pw l i])
  | 0, [], _, _ => rfl
  | f + 1, [], _, _ => rfl
  | f + 1, i :: R, hf, hp => by
    rw [List.pairwise_cons] at hp
    have e1 : nrs l (l.getD i pt0) m s R = [] := List.filter_eq_nil_iff.2 fun x hx => by rw [hp.1 x hx]; simp
    have e2 : nks l (l.getD i pt0) m s R = R := List.filter_eq_self.2 fun x hx => by rw [hp.1 x hx]; rfl
    rw [mergeL, e1, e2, merge_apart l m s f R (by simpa using hf) hp.2]
    rfl
theorem merge_le (l : List Pt) (m s : Nat) : ∀ (f : Nat) (o : List Nat), (mergeL l m s f o).length ≤ o.length
  | 0, o => Nat.zero_le _
  | f + 1, [] => Nat.le_refl _
  | f + 1, i :: R => by
    rw [mergeL, List.length_cons, List.length_cons]
    have := merge_le l m s f (nks l (l.getD i pt0) m s R)
    have h2 : (nks l (l.getD i pt0) m s R).length ≤ R.length := List.length_filter_le _ _
    omega
theorem merge_ne (l : List Pt) (m s f : Nat) (o : List Nat) (h : 0 < o.length) : 0 < (mergeL l m s (f + 1) o).length := by
  cases o with
  | nil => simp at h
  | cons i R => rw [mergeL, List.length_cons]; omega
end Go.Proofs.Ytdngkeefbpffcaa

set_option autoImplicit false
set_option linter.unusedVariables false
namespace Pl
open Lk
/-- Order's word -/
def ordL (lt : Nat → Nat → Bool) (n : Nat) : List Nat := insF lt 0 n (List.range n)
theorem ordL_ok {lt : Nat → Nat → Bool} (h : WO lt) (n : Nat) : (ordL lt n).length = n ∧ (∀ x ∈ ordL lt n, x < n) ∧ Srt lt (gd (ordL lt n)) 0 n := by
  unfold ordL
  cases n with
  | zero => rw [insF_small lt _ (by omega)]; exact ⟨rfl, fun x hx => by simp at hx, Srt.one _ (by omega)⟩
  | succ n =>
    have p := ins_post h (D := List.range (n + 1)) (a := 0) n (by simp; omega) (fun i j _ i2 i3 => by rw [gd_range (by omega), gd_range (by omega)]; exact i2)
    rw [show 0 + 1 + n = n + 1 by omega] at p
    have le : (insF lt 0 (n + 1) (List.range (n + 1))).length = n + 1 := by rw [p.1.len]; simp
    refine ⟨le, fun x hx => ?_, p.2⟩
    obtain ⟨k, hk, rfl⟩ := List.mem_iff_getElem.1 hx
    obtain ⟨j, _, j2, j3⟩ := p.1.src k (Nat.zero_le _) (by omega)
    have e : gd (insF lt 0 (n + 1) (List.range (n + 1))) k = (insF lt 0 (n + 1) (List.range (n + 1)))[k] := by
      unfold gd; rw [List.getD_eq_getElem?_getD, List.getElem?_eq_getElem hk]; rfl
    rw [← e, j3, gd_range j2]; exact j2
end Pl
namespace Go.Proofs.Ytdngkeefbpffcaa
open Go.RowKit Lk Pl
theorem ord_of (a : Option Addr) (n cap : Nat) (l : List Pt) (hn : n ≤ 1048576) : OrdOf a n cap l (ordL (ltI l) n) := fun w h => order_all a n cap l w h hn
theorem ord_ok (l : List Pt) (n : Nat) : (ordL (ltI l) n).length = n ∧ (∀ x ∈ ordL (ltI l) n, x < n) ∧ Srt (ltI l) (gd (ordL (ltI l) n)) 0 n := ordL_ok (ltI_wo l) n
end Go.Proofs.Ytdngkeefbpffcaa

set_option autoImplicit false
set_option linter.unusedVariables false
namespace Lk
/-! words that are each other's negative, in value -/
def Ng (u v : Nat) : Prop := (Nan u ∧ Nan v) ∨ (¬ Nan u ∧ ¬ Nan v ∧ ev v = - ev u)
theorem ng_fneg (u : Nat) : Ng u (fneg u) := by
  by_cases h : Nan u
  · exact .inl ⟨h, nan_fneg.2 h⟩
  · exact .inr ⟨h, fun q => h (nan_fneg.1 q), ev_fneg u⟩
theorem Ng.symm {u v : Nat} (h : Ng u v) : Ng v u := by
  rcases h with ⟨a, b⟩ | ⟨a, b, c⟩
  · exact .inl ⟨b, a⟩
  · exact .inr ⟨b, a, by rw [c]; grind⟩
theorem Ng.nan {u v : Nat} (h : Ng u v) : Nan u ↔ Nan v := by
  rcases h with ⟨a, b⟩ | ⟨a, b, c⟩
  · exact ⟨fun _ => b, fun _ => a⟩
  · exact ⟨fun h => absurd h a, fun h => absurd h b⟩
theorem Ng.fin1 {u v : Nat} (h : Ng u v) (hu : Fin u) : Fin v := by
  rcases h with ⟨a, b⟩ | ⟨a, b, c⟩
  · exact absurd a hu.not_nan
  · obtain ⟨h1, h2⟩ := ev_fin hu
    exact fin_of_ev b (by rw [c]; grind) (by rw [c]; grind)
theorem Ng.fin {u v : Nat} (h : Ng u v) : Fin u ↔ Fin v := ⟨h.fin1, h.symm.fin1⟩
theorem Ng.inf1 {u v : Nat} (h : Ng u v) (hu : Inf u) : Inf v := by
  have hn : ¬ Nan v := fun q => hu.not_nan (h.nan.2 q)
  rcases not_nan hn with hf | hi
  · have := h.symm.fin1 hf
    unfold Fin at this; unfold Inf at hu; omega
  · exact hi
theorem Ng.inf {u v : Nat} (h : Ng u v) : Inf u ↔ Inf v := ⟨h.inf1, h.symm.inf1⟩
theorem Ng.ev {u v : Nat} (h : Ng u v) (hu : ¬ Nan u) : Lk.ev v = - Lk.ev u := by
  rcases h with ⟨a, b⟩ | ⟨a, b, c⟩
  · exact absurd a hu
  · exact c
theorem ng_of {u v : Nat} (hu : ¬ Nan u) (hv : ¬ Nan v) (h : ev v = - ev u) : Ng u v := .inr ⟨hu, hv, h⟩
theorem inf_sgn {u v : Nat} (hu : Inf u) (hv : Inf v) : sgn u = sgn v ↔ ev u = ev v := by
  rw [ev_inf hu, ev_inf hv]
  have := p2_pos 1024
  unfold sv
  cases sgn u <;> cases sgn v <;> simp <;> grind
theorem fadd_inf_fin {x y : Nat} (hx : Inf x) (hy : Fin y) : ¬ Nan (fadd x y) ∧ ev (fadd x y) = ev x := by
  unfold fadd; rw [add_inf_fin hx hy]
  refine ⟨wd_inf_nan _, ?_⟩
  show ev (wd (sgn x) INF) = ev x
  rw [ev_wd _ (Nat.le_refl _), mg_inf, ev_inf hx]
theorem fadd_fin_inf {x y : Nat} (hx : Fin x) (hy : Inf y) : ¬ Nan (fadd x y) ∧ ev (fadd x y) = ev y := by
  unfold fadd; rw [add_fin_inf hx hy]
  refine ⟨wd_inf_nan _, ?_⟩
  show ev (wd (sgn y) INF) = ev y
  rw [ev_wd _ (Nat.le_refl _), mg_inf, ev_inf hy]
theorem fadd_inf_same {x y : Nat} (hx : Inf x) (hy : Inf y) (h : ev x = ev y) : ¬ Nan (fadd x y) ∧ ev (fadd x y) = ev x := by
  unfold fadd; rw [add_inf_inf hx hy, if_pos ((inf_sgn hx hy).2 h)]
  refine ⟨wd_inf_nan _, ?_⟩
  show ev (wd (sgn x) INF) = ev x
  rw [ev_wd _ (Nat.le_refl _), mg_inf, ev_inf hx]
theorem fadd_inf_other {x y : Nat} (hx : Inf x) (hy : Inf y) (h : ¬ ev x = ev y) : Nan (fadd x y) := by
  unfold fadd; rw [add_inf_inf hx hy, if_neg (fun e => h ((inf_sgn hx hy).1 e))]; exact nan_qn
theorem ng_add {a a' b b' : Nat} (h1 : Ng a a') (h2 : Ng b b') : Ng (fadd a b) (fadd a' b') := by
  by_cases ha : Nan a
  · exact .inl ⟨nan_fadd (.inl ha), nan_fadd (.inl (h1.nan.1 ha))⟩
  by_cases hb : Nan b
  · exact .inl ⟨nan_fadd (.inr hb), nan_fadd (.inr (h2.nan.1 hb))⟩
  have e1 := h1.ev ha
  have e2 := h2.ev hb
  rcases not_nan ha with fa | ia
  · rcases not_nan hb with fb | ib
    · obtain ⟨_, n1, v1, _⟩ := fadd_fin fa fb
      obtain ⟨_, n2, v2, _⟩ := fadd_fin (h1.fin.1 fa) (h2.fin.1 fb)
      refine ng_of n1 n2 ?_
      rw [v2, v1, e1, e2, ← rc_neg]; congr 1; grind
    · obtain ⟨n1, v1⟩ := fadd_fin_inf fa ib
      obtain ⟨n2, v2⟩ := fadd_fin_inf (h1.fin.1 fa) (h2.inf.1 ib)
      exact ng_of n1 n2 (by rw [v2, v1, e2])
  · rcases not_nan hb with fb | ib
    · obtain ⟨n1, v1⟩ := fadd_inf_fin ia fb
      obtain ⟨n2, v2⟩ := fadd_inf_fin (h1.inf.1 ia) (h2.fin.1 fb)
      exact ng_of n1 n2 (by rw [v2, v1, e1])
    · by_cases hs : ev a = ev b
      · obtain ⟨n1, v1⟩ := fadd_inf_same ia ib hs
        obtain ⟨n2, v2⟩ := fadd_inf_same (h1.inf.1 ia) (h2.inf.1 ib) (by rw [e1, e2, hs])
        exact ng_of n1 n2 (by rw [v2, v1, e1])
      · exact .inl ⟨fadd_inf_other ia ib hs, fadd_inf_other (h1.inf.1 ia) (h2.inf.1 ib) (by rw [e1, e2]; grind)⟩
theorem ng_neg2 {a a' : Nat} (h : Ng a a') : Ng (fneg a) (fneg a') := by
  rcases h with ⟨p, q⟩ | ⟨p, q, r⟩
  · exact .inl ⟨nan_fneg.2 p, nan_fneg.2 q⟩
  · exact .inr ⟨fun e => p (nan_fneg.1 e), fun e => q (nan_fneg.1 e), by rw [ev_fneg, ev_fneg, r]⟩
theorem ng_sub {a a' b b' : Nat} (h1 : Ng a a') (h2 : Ng b b') : Ng (fsub a b) (fsub a' b') := by
  rw [fsub_eq, fsub_eq]; exact ng_add h1 (ng_neg2 h2)
theorem sv_xor (s t : Bool) (x : Rat) : sv (s ^^ t) x = sv s (sv t x) := by
  unfold sv; cases s <;> cases t <;> simp
theorem ng_div {a a' : Nat} (h1 : Ng a a') (b : Nat) : Ng (fdiv a b) (fdiv a' b) := by
  by_cases ha : Nan a
  · exact .inl ⟨nan_fdiv (.inl ha), nan_fdiv (.inl (h1.nan.1 ha))⟩
  by_cases hb : Nan b
  · exact .inl ⟨nan_fdiv (.inr hb), nan_fdiv (.inr hb)⟩
  have e1 := h1.ev ha
  have sg : ev a ≠ 0 → sgn a' = !sgn a := fun h0 => by
    by_cases g : ev a < 0
    · rw [ev_neg_sgn g, ev_pos_sgn (by rw [e1]; grind)]; rfl
    · have g2 : 0 < ev a := by grind
      rw [ev_pos_sgn g2, ev_neg_sgn (by rw [e1]; grind)]; rfl
  have ninf : ∀ x y : Nat, Inf x → ev x ≠ 0 := fun x _ hx => by
    rcases inf_ev hx with g | g <;> (have := p2_pos 1024; rw [g]; grind)
  rcases not_nan ha with fa | ia
  · rcases not_nan hb with fb | ib
    · by_cases h0 : ev b = 0
      · by_cases ha0 : ev a = 0
        · refine .inl ⟨?_, ?_⟩
          · unfold fdiv; rw [div_zero_zero ha0 h0]; exact nan_qn
          · unfold fdiv; rw [div_zero_zero (by rw [e1, ha0]; grind) h0]; exact nan_qn
        · unfold fdiv
          rw [div_zero fa ha0 h0, div_zero (h1.fin.1 fa) (by rw [e1]; grind) h0]
          refine ng_of (wd_inf_nan _) (wd_inf_nan _) ?_
          show ev (wd _ INF) = - ev (wd _ INF)
          rw [ev_wd _ (Nat.le_refl _), ev_wd _ (Nat.le_refl _), sv_xor, sv_xor, sg ha0]
          cases sgn a <;> simp [sv]
      · obtain ⟨_, n1, v1, _⟩ := fdiv_fin fa fb h0
        obtain ⟨_, n2, v2, _⟩ := fdiv_fin (h1.fin.1 fa) fb h0
        refine ng_of n1 n2 ?_
        rw [v2, v1, e1, ← rc_neg]; congr 1; grind
    · unfold fdiv
      rw [div_fin_inf fa ib, div_fin_inf (h1.fin.1 fa) ib]
      refine ng_of ?_ ?_ ?_
      · show ¬ Nan (wd _ 0); unfold Nan; rw [rg_wd _ (Nat.zero_le _)]; omega
      · show ¬ Nan (wd _ 0); unfold Nan; rw [rg_wd _ (Nat.zero_le _)]; omega
      · show ev (wd _ 0) = - ev (wd _ 0)
        have z : ∀ s, ev (wd s 0) = 0 := fun s => ev_zero_iff.2 (rg_wd s (Nat.zero_le _))
        rw [z, z]; grind
  · rcases not_nan hb with fb | ib
    · unfold fdiv
      rw [div_inf_fin ia fb, div_inf_fin (h1.inf.1 ia) fb]
      refine ng_of (wd_inf_nan _) (wd_inf_nan _) ?_
      show ev (wd _ INF) = - ev (wd _ INF)
      rw [ev_wd _ (Nat.le_refl _), ev_wd _ (Nat.le_refl _), sv_xor, sv_xor, sg (ninf a a ia)]
      cases sgn a <;> simp [sv]
    · refine .inl ⟨?_, ?_⟩
      · unfold fdiv; rw [div_inf_inf ia ib]; exact nan_qn
      · unfold fdiv; rw [div_inf_inf (h1.inf.1 ia) ib]; exact nan_qn
theorem ng_gt {u v : Nat} (h : Ng u v) (m : Nat) : cgt (fabs u) m = cgt (fabs v) m := by
  rw [Bool.eq_iff_iff, cgt_iff, cgt_iff, nan_fabs, nan_fabs, ev_fabs, ev_fabs]
  by_cases hu : Nan u
  · have := h.nan.1 hu; simp [hu, this]
  · rw [h.ev hu, Rat.abs_neg]
    have : ¬ Nan v := fun q => hu (h.nan.2 q)
    simp [hu, this]
end Lk

set_option autoImplicit false
set_option linter.unusedVariables false
namespace Pl
open Lk
theorem ng_swap {a a' b b' : Nat} (h1 : Ng a a') (h2 : Ng b b') : Ng (fadd a b) (fadd b' a') := by
  by_cases ha : Nan a
  · exact .inl ⟨nan_fadd (.inl ha), nan_fadd (.inr (h1.nan.1 ha))⟩
  by_cases hb : Nan b
  · exact .inl ⟨nan_fadd (.inr hb), nan_fadd (.inl (h2.nan.1 hb))⟩
  have e1 := h1.ev ha
  have e2 := h2.ev hb
  rcases not_nan ha with fa | ia
  · rcases not_nan hb with fb | ib
    · obtain ⟨_, n1, v1, _⟩ := fadd_fin fa fb
      obtain ⟨_, n2, v2, _⟩ := fadd_fin (h2.fin.1 fb) (h1.fin.1 fa)
      refine ng_of n1 n2 ?_
      rw [v2, v1, e1, e2, ← rc_neg]; congr 1; grind
    · obtain ⟨n1, v1⟩ := fadd_fin_inf fa ib
      obtain ⟨n2, v2⟩ := fadd_inf_fin (h2.inf.1 ib) (h1.fin.1 fa)
      exact ng_of n1 n2 (by rw [v2, v1, e2])
  · rcases not_nan hb with fb | ib
    · obtain ⟨n1, v1⟩ := fadd_inf_fin ia fb
      obtain ⟨n2, v2⟩ := fadd_fin_inf (h2.fin.1 fb) (h1.inf.1 ia)
      exact ng_of n1 n2 (by rw [v2, v1, e1])
    · by_cases hs : ev a = ev b
      · obtain ⟨n1, v1⟩ := fadd_inf_same ia ib hs
        obtain ⟨n2, v2⟩ := fadd_inf_same (h2.inf.1 ib) (h1.inf.1 ia) (by rw [e1, e2, hs])
        exact ng_of n1 n2 (by rw [v2, v1, e2, hs])
      · exact .inl ⟨fadd_inf_other ia ib hs, fadd_inf_other (h2.inf.1 ib) (h1.inf.1 ia) (by rw [e1, e2]; grind)⟩
theorem ng_le {u v : Nat} (h : Ng u v) (m : Nat) : cle (fabs u) m = cle (fabs v) m := by
  rw [Bool.eq_iff_iff, cle_iff, cle_iff, nan_fabs, nan_fabs, ev_fabs, ev_fabs]
  by_cases hu : Nan u
  · have := h.nan.1 hu; simp [hu, this]
  · rw [h.ev hu, Rat.abs_neg]
    have : ¬ Nan v := fun q => hu (h.nan.2 q)
    simp [hu, this]
theorem dF_symm (x y m : Nat) : dF x y m = dF y x m := by
  unfold dF
  refine ng_le ?_ m
  rw [fsub_eq, fsub_eq]
  exact ng_swap (ng_fneg x) (ng_fneg y).symm
theorem near_symm (m s : Nat) (p q : Pt) : nearB m s p q = nearB m s q p := by
  unfold nearB
  rw [dF_symm p.range, dF_symm p.speed]
end Pl

set_option autoImplicit false
set_option linter.unusedVariables false
namespace Go.Proofs.Ytdngkeefbpffcaa
open Go.RowKit Lk Pl
/-- no two near so far -/
def Ap2 (l : List Pt) (m s i j : Nat) : Prop := ∀ x y, y < x → (x < i ∨ (x = i ∧ y < j)) → nearB m s (l.getD x pt0) (l.getD y pt0) = false
theorem Ap2.zero (l : List Pt) (m s : Nat) : Ap2 l m s 0 0 := fun x y h1 h2 => by omega
theorem Ap2.row {l : List Pt} {m s i : Nat} : Ap2 l m s i i ↔ Ap2 l m s (i + 1) 0 := ⟨fun h x y h1 h2 => h x y h1 (by omega), fun h x y h1 h2 => h x y h1 (by omega)⟩
theorem Ap2.step {l : List Pt} {m s i j : Nat} (hj : j < i) : Ap2 l m s i (j + 1) ↔ Ap2 l m s i j ∧ nearB m s (l.getD i pt0) (l.getD j pt0) = false :=
  ⟨fun h => ⟨fun x y h1 h2 => h x y h1 (by omega), h i j hj (by omega)⟩, fun ⟨h, k⟩ x y h1 h2 => by
    by_cases e : x = i ∧ y = j
    · rw [e.1, e.2]; exact k
    · exact h x y h1 (by omega)⟩
theorem ap_pair {l : List Pt} {m s n : Nat} (h : Ap2 l m s n 0) {x y : Nat} (hx : x < n) (hy : y < n) (e : x ≠ y) : nearB m s (l.getD x pt0) (l.getD y pt0) = false := by
  rcases Nat.lt_or_gt_of_ne e with c | c
  · rw [near_symm]; exact h y x c (by omega)
  · exact h x y c (by omega)
theorem ap_ord {l : List Pt} {m s n : Nat} (h : Ap2 l m s n 0) : (ordL (ltI l) n).Pairwise (fun i x => nr l (l.getD i pt0) m s x = false) := by
  obtain ⟨h1, h2, h3⟩ := ord_ok l n
  rw [List.pairwise_iff_getElem]
  intro i j hi hj hij
  have ne := srt_inj (ltI_wo l) h3 i j hij (by omega)
  unfold gd at ne
  rw [List.getD_eq_getElem?_getD, List.getD_eq_getElem?_getD, List.getElem?_eq_getElem hi, List.getElem?_eq_getElem hj] at ne
  exact ap_pair h (h2 _ (List.getElem_mem hj)) (h2 _ (List.getElem_mem hi)) (fun e => ne e.symm)
theorem ap_merge {l : List Pt} {m s n : Nat} (h : Ap2 l m s n 0) : mergeL l m s n (ordL (ltI l) n) = (ordL (ltI l) n).map fun i => (i, [pw l i]) :=
  merge_apart l m s n _ (by rw [(ord_ok l n).1]; exact Nat.le_refl _) (ap_ord h)
end Go.Proofs.Ytdngkeefbpffcaa
