import Derived.Test.YtoobpiednigcgaaSmV2
set_option autoImplicit false
set_option linter.unusedVariables false
namespace Go.Proofs.Ytoobpiednigcgaa
open Go.RowKit Lk
theorem addZ {l : List Nat} {n p : Nat} (hl : l.length = n) (hv : ∀ i, i < n → V (l.getD i 0) 0) (hp : sgn (l.getD p 0) = false) : ∀ k, p < k → k ≤ n → sgn (addL (l.take k)) = false
  | 0, h, _ => by omega
  | 1, h, h1 => by
    obtain rfl : p = 0 := by omega
    rw [addL_one (getD_some (by omega))]; exact hp
  | k + 2, h, hk => by
    have hs : ∀ m, sI (fun _ => (0 : Int)) m = 0 := fun m => by induction m with
      | zero => rfl
      | succ m ih => rw [sI, ih]; rfl
    have h1 := addV (f := fun _ => 0) (K := 0) hl hv (fun _ _ => Nat.le_refl _) (by omega) (k + 1) (by omega) (by omega)
    have h2 := hv (k + 1) (by omega)
    rw [hs] at h1
    rw [addL_take (getD_some (by omega)) (by omega), (fadd_fin h1.1 h2.1).2.2.2, if_pos (by rw [h1.2, h2.2]; decide +kernel)]
    by_cases e : p = k + 1
    · subst e; rw [hp, Bool.and_false]
    · rw [addZ hl hv hp (k + 1) (by omega) (by omega), Bool.false_and]
theorem fsub_sgn {x y : Nat} {n : Int} (hx : V x n) (hy : V y n) (hs : sgn x = decide (n < 0)) : sgn (fsub x y) = false := by
  rw [(fsub_fin hx.1 hy.1).2.2.2, if_pos (by rw [hx.2, hy.2]; grind)]
  by_cases h0 : n = 0
  · subst h0; rw [hs]; rfl
  · have := (ev_inj (v := x) (w := y) (by rw [hx.2, hy.2]) (by rw [hx.2]; intro h; exact h0 (by exact_mod_cast h))).1
    rw [this]; cases sgn y <;> rfl
/-- two words of one whole number -/
theorem V.word {x y : Nat} {n : Int} (hx : V x n) (hy : V y n) (lx : x < 2 ^ 64) (ly : y < 2 ^ 64) (h0 : n = 0 → sgn x = sgn y) : x = y := by
  by_cases h : n = 0
  · exact word_inj lx ly (by rw [hx.2, hy.2]) (h0 h)
  · exact word_inj lx ly (by rw [hx.2, hy.2]) (ev_inj (by rw [hx.2, hy.2]) (by rw [hx.2]; intro e; exact h (by exact_mod_cast e))).1
namespace Whole
variable {t x : List Nat} {p : Nat} {a b c h : Int}
theorem len (W : Whole t x p a b c h) : (prL t x).length = 2 * p + 1 := by unfold prL; rw [List.length_map, List.length_zip, W.lt, W.lx, Nat.min_self]
theorem zero (W : Whole t x p a b 0 h) (st : sgn (t.getD p 0) = decide (a + (p : Int) * h < 0)) (sx : sgn (x.getD p 0) = decide (b < 0)) : sgn (lineS t x) = false := by
  have e : ∀ i, b + 0 * (a + (i : Int) * h) = b := fun i => by omega
  have h1 : ∀ i, i < 2 * p + 1 → V ((prL t x).getD i 0) 0 := fun i hi => by
    unfold prL
    rw [getD_zip _ (by rw [W.lt]; exact hi) (by rw [W.lx]; exact hi)]
    have := (W.dt i hi).mul (W.dx i hi) (by simp)
    simpa using this
  have h2 : sgn ((prL t x).getD p 0) = false := by
    unfold prL
    rw [getD_zip _ (by rw [W.lt]; omega) (by rw [W.lx]; omega)]
    have q1 := W.dt p (by omega)
    have q2 := W.dx p (by omega)
    simp only
    rw [(fmul_fin q1.1 q2.1).2.2.2, fsub_sgn (W.vt p (by omega)) W.mt st]
    have v1 := W.vx p (by omega)
    have v2 := W.mx
    rw [e] at v1 v2
    rw [fsub_sgn v1 v2 sx]; rfl
  have h3 := addZ W.len h1 h2 (2 * p + 1) (by omega) (Nat.le_refl _)
  rw [List.take_of_length_le (by rw [W.len]; omega)] at h3
  have q := W.sq
  have ps := W.pos
  have qe : 0 < ev (addL (sqL t)) := by rw [q.2]; exact_mod_cast ps
  unfold lineS
  rw [(fdiv_fin W.pr.1 q.1 (by grind)).2.2.2, h3, ev_pos_sgn qe]; rfl
theorem speed_lt (W : Whole t x p a b c h) : lineS t x < 2 ^ 64 := by
  have ps := W.pos
  have qe : 0 < ev (addL (sqL t)) := by rw [W.sq.2]; exact_mod_cast ps
  unfold lineS
  exact (fdiv_fin W.pr.1 W.sq.1 (by grind)).1
theorem speed_word (W : Whole t x p a b c h) (st : sgn (t.getD p 0) = decide (a + (p : Int) * h < 0)) (sx : c = 0 → sgn (x.getD p 0) = decide (b < 0)) : lineS t x = floatOfInt .f64 c := by
  obtain ⟨f1, f2, f3⟩ := V.ofInt (n := c) (by have := W.hc; omega)
  refine V.word W.speed f1 W.speed_lt f2 fun hc => ?_
  rw [f3]
  subst hc
  rw [W.zero st (sx rfl)]; rfl
theorem finL_of {l : List Nat} {n : Nat} {f : Nat → Int} (hl : l.length = n) (hv : ∀ i, i < n → V (l.getD i 0) (f i)) : finL l = true := by
  unfold finL
  rw [List.all_eq_true]
  intro y hy
  obtain ⟨i, hi, rfl⟩ := List.mem_iff_getElem.1 hy
  have := (hv i (by omega)).1
  rw [List.getD_eq_getElem?_getD, List.getElem?_eq_getElem hi] at this
  simpa using this
theorem err (W : Whole t x p a b c h) : lineE t x = 0 := by
  have := W.p1; have := W.p9
  have ps := W.pos
  unfold lineE
  rw [if_neg (by rw [W.lt, W.lx]; omega), if_neg (by rw [W.lt]; omega), if_neg (by rw [W.lt]; omega), if_neg (by rw [finL_of W.lt W.vt, finL_of W.lx W.vx]; decide),
    if_neg (by rw [W.sq.ceq V.zero]; simp; omega), if_neg (by simp [W.speed.1, W.place.1])]
theorem tE (W : Whole t x p a b c h) : turnsE t x 0 = if h < 0 then 2 else 0 := by
  have := W.p1; have := W.p9
  have h0 := W.h0
  have hs : ∀ i, i < 2 * p → clt (t.getD i 0) (t.getD (i + 1) 0) = decide (0 < h) := fun i hi => by
    rw [(W.vt i (by omega)).clt (W.vt (i + 1) (by omega))]
    have e : a + ((i + 1 : Nat) : Int) * h = a + (i : Int) * h + h := by rw [Int.natCast_add, Int.add_mul]; omega
    rw [e]
    by_cases hh : 0 < h
    · rw [decide_eq_true hh, decide_eq_true (by omega)]
    · rw [decide_eq_false hh, decide_eq_false (by omega)]
  unfold turnsE
  rw [if_neg (by rw [W.lt, W.lx]; omega), if_neg (by rw [W.lt]; omega), if_neg (by rw [finL_of W.lt W.vt, finL_of W.lx W.vx]; decide), if_neg (by decide +kernel)]
  unfold upF
  rw [W.lt, show 2 * p + 1 - 1 = 2 * p by omega]
  by_cases hh : 0 < h
  · have : upK t (2 * p) = true := by
      unfold upK; rw [List.all_eq_true]; intro i hi
      rw [hs i (List.mem_range.1 hi)]; exact decide_eq_true hh
    rw [this]; simp [show ¬ h < 0 by omega]
  · have : upK t (2 * p) = false := upK_false (j := 0) (by rw [hs 0 (by omega)]; exact decide_eq_false hh) (by omega)
    rw [this]; simp [show h < 0 by omega]
theorem slopeV (W : Whole t x p a b c h) (i : Nat) (hi : i + 1 < 2 * p + 1) : V (slope t x i) c := by
  have e1 : a + ((i + 1 : Nat) : Int) * h - (a + (i : Int) * h) = h := by rw [Int.natCast_add, Int.add_mul]; omega
  have e2 : b + c * (a + ((i + 1 : Nat) : Int) * h) - (b + c * (a + (i : Int) * h)) = c * h := by rw [Int.natCast_add]; grind
  have q1 := (W.vt (i + 1) hi).sub (W.vt i (by omega)) (by rw [e1]; have := W.hh; omega)
  have q2 := (W.vx (i + 1) hi).sub (W.vx i (by omega)) (by rw [e2]; have := abs_mul_le W.hc W.hh; omega)
  rw [e1] at q1
  rw [e2] at q2
  exact q2.div q1 W.h0 rfl (by have := W.hc; omega)
theorem tR (W : Whole t x p a b c h) : turnsR t x 0 = [] := by
  have := W.p1
  unfold turnsR
  split
  · unfold turnsL turnsK
    rw [W.lt, List.filter_eq_nil_iff]
    intro i hi
    have hi := List.mem_range.1 hi
    by_cases h1 : 1 ≤ i
    · have q := (W.slopeV i (by omega)).sub (W.slopeV (i - 1) (by omega)) (by omega)
      rw [show c - c = 0 by omega] at q
      have : turnsAt t x 0 i = false := by
        unfold turnsAt
        rw [Bool.eq_false_iff]
        intro hh
        have := (cgt_iff.1 hh).2.2
        rw [ev_fabs, q.2, V.zero.2] at this
        revert this; decide +kernel
      simp [this]
    · simp [h1]
  · rfl
end Whole
end Go.Proofs.Ytoobpiednigcgaa
