import Derived.Test.YtoobpiednigcgaaSmV
import Derived.Test.YtoobpiednigcgaaFlX
set_option autoImplicit false
set_option linter.unusedVariables false
namespace Go.Proofs.Ytoobpiednigcgaa
open Go.RowKit Lk
theorem abs_mul_le {x y : Int} {A B : Nat} (h1 : x.natAbs ≤ A) (h2 : y.natAbs ≤ B) : (x * y).natAbs ≤ A * B := by rw [Int.natAbs_mul]; exact Nat.mul_le_mul h1 h2
theorem abs_add_le {x y : Int} {A B : Nat} (h1 : x.natAbs ≤ A) (h2 : y.natAbs ≤ B) : (x + y).natAbs ≤ A + B := by omega
theorem mean_V {t : List Nat} {a h : Int} {p K : Nat} (hp9 : p ≤ 49) (hl : t.length = 2 * p + 1) (ht : ∀ i, i < 2 * p + 1 → V (t.getD i 0) (a + (i : Int) * h)) (hb : ∀ i, i < 2 * p + 1 → (a + (i : Int) * h).natAbs ≤ K) (hK : (2 * p + 1) * K ≤ 2 ^ 53) :
    V (mean t) (a + (p : Int) * h) := by
  have h1 := addV hl ht hb hK (2 * p + 1) (by omega) (Nat.le_refl _)
  rw [List.take_of_length_le (by omega), sI_mid] at h1
  unfold mean
  have hp := hb p (by omega)
  have hk : (a + (p : Int) * h).natAbs ≤ 2 ^ 53 := Nat.le_trans hp (Nat.le_trans (Nat.le_mul_of_pos_left _ (by omega)) hK)
  have hv := (V.ofInt (n := (t.length : Int)) (by rw [hl]; omega)).1
  refine h1.div hv (by rw [hl]; omega) ?_ hk
  rw [hl, Int.mul_comm]
  congr 1
theorem getD_map {l : List Nat} (f : Nat → Nat) {i : Nat} (h : i < l.length) : (l.map f).getD i 0 = f (l.getD i 0) := by
  simp [List.getD_eq_getElem?_getD, List.getElem?_map, List.getElem?_eq_getElem h]
theorem getD_zip {l m : List Nat} (f : Nat × Nat → Nat) {i : Nat} (h : i < l.length) (h' : i < m.length) : ((l.zip m).map f).getD i 0 = f (l.getD i 0, m.getD i 0) := by
  simp [List.getD_eq_getElem?_getD, List.getElem?_map, List.getElem?_eq_getElem h, List.getElem?_eq_getElem h', List.getElem?_eq_getElem (show i < (l.zip m).length by simp; omega)]
/-- the whole of it: whole numbers on a line -/
structure Whole (t x : List Nat) (p : Nat) (a b c h : Int) : Prop where
  p1 : 1 ≤ p
  p9 : p ≤ 49
  lt : t.length = 2 * p + 1
  lx : x.length = 2 * p + 1
  vt : ∀ i, i < 2 * p + 1 → V (t.getD i 0) (a + (i : Int) * h)
  vx : ∀ i, i < 2 * p + 1 → V (x.getD i 0) (b + c * (a + (i : Int) * h))
  ha : a.natAbs ≤ 1023
  hb : b.natAbs ≤ 1023
  hc : c.natAbs ≤ 1023
  hh : h.natAbs ≤ 1023
  h0 : h ≠ 0
namespace Whole
variable {t x : List Nat} {p : Nat} {a b c h : Int}
theorem bt (W : Whole t x p a b c h) (i : Nat) (hi : i < 2 * p + 1) : (a + (i : Int) * h).natAbs ≤ 101377 := by
  have := abs_add_le W.ha (abs_mul_le (x := (i : Int)) (A := 98) (by have := W.p9; omega) W.hh)
  omega
theorem bx (W : Whole t x p a b c h) (i : Nat) (hi : i < 2 * p + 1) : (b + c * (a + (i : Int) * h)).natAbs ≤ 103709694 := by
  have := abs_add_le W.hb (abs_mul_le W.hc (W.bt i hi))
  omega
theorem mt (W : Whole t x p a b c h) : V (mean t) (a + (p : Int) * h) := mean_V W.p9 W.lt W.vt W.bt (by have := W.p9; omega)
theorem mx (W : Whole t x p a b c h) : V (mean x) (b + c * (a + (p : Int) * h)) := by
  have e : ∀ i : Nat, b + c * (a + (i : Int) * h) = (b + c * a) + (i : Int) * (c * h) := fun i => by grind
  have h1 := mean_V (a := b + c * a) (h := c * h) (K := 103709694) W.p9 W.lx (fun i hi => by rw [← e]; exact W.vx i hi) (fun i hi => by rw [← e]; exact W.bx i hi) (by have := W.p9; omega)
  rwa [← e] at h1
/-- how far from the middle -/
def d (p : Nat) (h : Int) (i : Nat) : Int := ((i : Int) - p) * h
theorem bd (W : Whole t x p a b c h) (i : Nat) (hi : i < 2 * p + 1) : (d p h i).natAbs ≤ 50127 := by
  have := abs_mul_le (x := (i : Int) - p) (A := 49) (by have := W.p9; omega) W.hh
  exact this
theorem dt (W : Whole t x p a b c h) (i : Nat) (hi : i < 2 * p + 1) : V (fsub (t.getD i 0) (mean t)) (d p h i) := by
  have e : a + (i : Int) * h - (a + (p : Int) * h) = d p h i := by unfold d; grind
  rw [← e]
  exact (W.vt i hi).sub W.mt (by rw [e]; have := W.bd i hi; omega)
theorem dx (W : Whole t x p a b c h) (i : Nat) (hi : i < 2 * p + 1) : V (fsub (x.getD i 0) (mean x)) (c * d p h i) := by
  have e : b + c * (a + (i : Int) * h) - (b + c * (a + (p : Int) * h)) = c * d p h i := by unfold d; grind
  rw [← e]
  exact (W.vx i hi).sub W.mx (by rw [e]; have := abs_mul_le W.hc (W.bd i hi); omega)
theorem sq (W : Whole t x p a b c h) : V (addL (sqL t)) (sI (fun i => d p h i * d p h i) (2 * p + 1)) := by
  have hl : (sqL t).length = 2 * p + 1 := by unfold sqL; rw [List.length_map, W.lt]
  have hb : ∀ i, i < 2 * p + 1 → (d p h i * d p h i).natAbs ≤ 2512716129 := fun i hi => abs_mul_le (W.bd i hi) (W.bd i hi)
  have h1 := addV (f := fun i => d p h i * d p h i) hl (fun i hi => by
    unfold sqL
    rw [getD_map _ (by rw [W.lt]; exact hi)]
    exact (W.dt i hi).mul (W.dt i hi) (Nat.le_trans (hb i hi) (by decide))) hb (by have := W.p9; omega) (2 * p + 1) (by omega) (Nat.le_refl _)
  rwa [List.take_of_length_le (by omega)] at h1
theorem pr (W : Whole t x p a b c h) : V (addL (prL t x)) (c * sI (fun i => d p h i * d p h i) (2 * p + 1)) := by
  have hl : (prL t x).length = 2 * p + 1 := by unfold prL; rw [List.length_map, List.length_zip, W.lt, W.lx, Nat.min_self]
  have hb : ∀ i, i < 2 * p + 1 → (c * (d p h i * d p h i)).natAbs ≤ 2570508599967 := fun i hi => abs_mul_le W.hc (abs_mul_le (W.bd i hi) (W.bd i hi))
  have h1 := addV (f := fun i => c * (d p h i * d p h i)) hl (fun i hi => by
    unfold prL
    rw [getD_zip _ (by rw [W.lt]; exact hi) (by rw [W.lx]; exact hi)]
    have e : d p h i * (c * d p h i) = c * (d p h i * d p h i) := by grind
    have := (W.dt i hi).mul (W.dx i hi) (by rw [e]; exact Nat.le_trans (hb i hi) (by decide))
    rwa [e] at this) hb (by have := W.p9; omega) (2 * p + 1) (by omega) (Nat.le_refl _)
  rw [List.take_of_length_le (by omega), sI_mul] at h1
  exact h1
theorem pos (W : Whole t x p a b c h) : 0 < sI (fun i => d p h i * d p h i) (2 * p + 1) := by
  refine sI_pos (fun i => ?_) ?_ _ (by omega)
  · rw [← Int.natAbs_mul_self' (d p h i)]; exact Int.mul_nonneg (by omega) (by omega)
  · have h1 : d p h 0 ≠ 0 := by
      unfold d
      have := W.p1
      exact Int.mul_ne_zero (by omega) W.h0
    have := Int.natAbs_mul_self' (d p h 0)
    have h2 : 0 < (d p h 0).natAbs := by omega
    rw [← this]
    exact Int.mul_pos (by omega) (by omega)
theorem speed (W : Whole t x p a b c h) : V (lineS t x) c := by
  unfold lineS
  exact W.pr.div W.sq (by have := W.pos; omega) rfl (by have := W.hc; omega)
theorem place (W : Whole t x p a b c h) : V (lineA t x) b := by
  unfold lineA
  have e : b + c * (a + (p : Int) * h) - c * (a + (p : Int) * h) = b := by omega
  have h1 := W.speed.mul W.mt (by have := abs_mul_le W.hc (W.bt p (by omega)); omega)
  have := W.mx.sub h1 (by rw [e]; have := W.hb; omega)
  rwa [e] at this
end Whole
end Go.Proofs.Ytoobpiednigcgaa
