import Derived.Test.YtoobpiednigcgaaSmV3
import Derived.Test.YtoobpiednigcgaaSmL
set_option autoImplicit false
set_option linter.unusedVariables false
namespace Go.Proofs.Ytoobpiednigcgaa
open Go.RowKit Lk
def tw (a h : Int) (i : Nat) : Nat := floatOfInt .f64 (a + (i : Int) * h)
def xw (a b c h : Int) (i : Nat) : Nat := floatOfInt .f64 (b + c * (a + (i : Int) * h))
def tL (a h : Int) (k : Nat) : List Nat := (List.range k).map (tw a h)
def xL (a b c h : Int) (k : Nat) : List Nat := (List.range k).map (xw a b c h)
def yL (a b c h : Int) (k : Nat) : List Nat := (List.range k).map fun i => fneg (xw a b c h i)
theorem range_snoc (f : Nat → Nat) (k : Nat) : (List.range (k + 1)).map f = (List.range k).map f ++ [f k] := by rw [List.range_succ, List.map_append]; rfl
theorem getD_range (f : Nat → Nat) {k i : Nat} (h : i < k) : ((List.range k).map f).getD i 0 = f i := by
  simp [List.getD_eq_getElem?_getD, List.getElem?_map, List.getElem?_range h]
theorem lt_range {f : Nat → Nat} {k : Nat} (h : ∀ i, i < k → f i < 2 ^ 64) : ∀ x ∈ (List.range k).map f, x < 2 ^ 64 := by
  intro x hx
  obtain ⟨i, hi, rfl⟩ := List.mem_map.1 hx
  exact h i (List.mem_range.1 hi)
theorem fneg_lt {x : Nat} (h : Lk.Fin x) : fneg x < 2 ^ 64 := wd_lt _ (Nat.le_of_lt h)
theorem V.neg {x : Nat} {n : Int} (h : V x n) : V (fneg x) (-n) := by
  refine ⟨fin_fneg.2 h.1, ?_⟩
  rw [ev_fneg, h.2]
  simp
/-- the numbers of the statement -/
structure Sm (a b c h : Int) (p : Nat) : Prop where
  p1 : 1 ≤ p
  p9 : p ≤ 49
  ha : a.natAbs ≤ 1023
  hb : b.natAbs ≤ 1023
  hc : c.natAbs ≤ 1023
  hh : h.natAbs ≤ 1023
  h0 : h ≠ 0
namespace Sm
variable {a b c h : Int} {p : Nat}
theorem tb (S : Sm a b c h p) (i : Nat) (hi : i < 2 * p + 1) : (a + (i : Int) * h).natAbs ≤ 101377 := by
  have := abs_add_le S.ha (abs_mul_le (x := (i : Int)) (A := 98) (by have := S.p9; omega) S.hh)
  omega
theorem xb (S : Sm a b c h p) (i : Nat) (hi : i < 2 * p + 1) : (b + c * (a + (i : Int) * h)).natAbs ≤ 103709694 := by
  have := abs_add_le S.hb (abs_mul_le S.hc (S.tb i hi))
  omega
theorem vt (S : Sm a b c h p) (i : Nat) (hi : i < 2 * p + 1) : V (tw a h i) (a + (i : Int) * h) ∧ tw a h i < 2 ^ 64 ∧ sgn (tw a h i) = decide (a + (i : Int) * h < 0) := V.ofInt (by have := S.tb i hi; omega)
theorem vx (S : Sm a b c h p) (i : Nat) (hi : i < 2 * p + 1) : V (xw a b c h i) (b + c * (a + (i : Int) * h)) ∧ xw a b c h i < 2 ^ 64 ∧ sgn (xw a b c h i) = decide (b + c * (a + (i : Int) * h) < 0) := V.ofInt (by have := S.xb i hi; omega)
theorem wx (S : Sm a b c h p) : Whole (tL a h (2 * p + 1)) (xL a b c h (2 * p + 1)) p a b c h :=
  ⟨S.p1, S.p9, by simp [tL], by simp [xL], fun i hi => by unfold tL; rw [getD_range _ hi]; exact (S.vt i hi).1, fun i hi => by unfold xL; rw [getD_range _ hi]; exact (S.vx i hi).1, S.ha, S.hb, S.hc, S.hh, S.h0⟩
theorem wy (S : Sm a b c h p) : Whole (tL a h (2 * p + 1)) (yL a b c h (2 * p + 1)) p a (-b) (-c) h :=
  ⟨S.p1, S.p9, by simp [tL], by simp [yL], S.wx.vt, fun i hi => by
    unfold yL; rw [getD_range _ hi]
    have := V.neg (S.vx i hi).1
    rwa [Int.neg_add, ← Int.neg_mul] at this, S.ha, by have := S.hb; omega, by have := S.hc; omega, S.hh, S.h0⟩
theorem speed (S : Sm a b c h p) : lineS (tL a h (2 * p + 1)) (xL a b c h (2 * p + 1)) = floatOfInt .f64 c := by
  refine S.wx.speed_word ?_ fun hc => ?_
  · unfold tL; rw [getD_range _ (by omega)]; exact (S.vt p (by omega)).2.2
  · unfold xL; rw [getD_range _ (by omega), (S.vx p (by omega)).2.2, hc]; simp
theorem tlt (S : Sm a b c h p) : ∀ x ∈ tL a h (2 * p + 1), x < 2 ^ 64 := lt_range fun i hi => (S.vt i hi).2.1
theorem xlt (S : Sm a b c h p) : ∀ x ∈ xL a b c h (2 * p + 1), x < 2 ^ 64 := lt_range fun i hi => (S.vx i hi).2.1
theorem ylt (S : Sm a b c h p) : ∀ x ∈ yL a b c h (2 * p + 1), x < 2 ^ 64 := lt_range fun i hi => fneg_lt (S.vx i hi).1.1
/-- what the walk asks of the two lines -/
structure Told (t x y : List Nat) (b c : Int) (A D E : Nat) : Prop where
  lx : lineR t x = (A, floatOfInt .f64 c, 0)
  ly : lineR t y = (D, E, 0)
  q1 : FloatKind.f64.format.order A (floatOfInt .f64 b) = some .eq
  q2 : FloatKind.f64.format.order D (fneg A) = some .eq
  q3 : FloatKind.f64.format.order E (fneg (floatOfInt .f64 c)) = some .eq
  al : A < 2 ^ 64
theorem V.oeq {x y : Nat} {n : Int} (hx : V x n) (hy : V y n) : FloatKind.f64.format.order x y = some .eq := by
  rw [fmt64, o_eq]; exact ⟨hx.1.not_nan, hy.1.not_nan, by rw [hx.2, hy.2]⟩
theorem told (S : Sm a b c h p) : ∃ A D E, Told (tL a h (2 * p + 1)) (xL a b c h (2 * p + 1)) (yL a b c h (2 * p + 1)) b c A D E := by
  have e1 := S.wx.err
  have e2 := S.wy.err
  have s1 := S.speed
  refine ⟨lineA (tL a h (2 * p + 1)) (xL a b c h (2 * p + 1)), lineA (tL a h (2 * p + 1)) (yL a b c h (2 * p + 1)), lineS (tL a h (2 * p + 1)) (yL a b c h (2 * p + 1)), ?_, ?_, ?_, ?_, ?_, ?_⟩
  · unfold lineR; rw [if_pos e1, s1]
  · unfold lineR; rw [if_pos e2]
  · exact V.oeq S.wx.place (V.ofInt (by have := S.hb; omega)).1
  · exact V.oeq S.wy.place (V.neg S.wx.place)
  · exact V.oeq S.wy.speed (V.neg (V.ofInt (by have := S.hc; omega)).1)
  · unfold lineA; exact (fsub_fin S.wx.mx.1 (S.wx.speed.mul S.wx.mt (by have := abs_mul_le S.hc (S.tb p (by omega)); omega)).1).1
end Sm
end Go.Proofs.Ytoobpiednigcgaa
