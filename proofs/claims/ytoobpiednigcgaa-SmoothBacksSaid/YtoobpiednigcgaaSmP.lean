import Derived.Test.YtoobpiednigcgaaStP
set_option autoImplicit false
namespace Lk
open Go
/-! layer 20 over words -/
def pairF (a b c d : Nat) : Nat := fadd (fmul a b) (fmul c d)
def crossF (a b c d : Nat) : Nat := fsub (fmul a b) (fmul c d)
def finS (s : St) : Bool := decide (Fin s.x) && decide (Fin s.v) && decide (Fin s.pxx) && decide (Fin s.pxv) && decide (Fin s.pvv)
/-- what a float tells of another one's gain -/
structure Gn where
  c00 : Nat
  c01 : Nat
  c10 : Nat
  c11 : Nat
def gnF (s p : St) (dt d : Nat) : Gn :=
  ⟨fdiv (crossF (fadd s.pxx (fmul dt s.pxv)) p.pvv s.pxv p.pxv) d, fdiv (crossF s.pxv p.pxx (fadd s.pxx (fmul dt s.pxv)) p.pxv) d,
   fdiv (crossF (fadd s.pxv (fmul dt s.pvv)) p.pvv s.pvv p.pxv) d, fdiv (crossF s.pvv p.pxx (fadd s.pxv (fmul dt s.pvv)) p.pxv) d⟩
def nnF (x : Nat) : Nat := if clt x 0 then 0 else x
/-- the gained state ahead of the test for what is below nought -/
def gain0F (s p n : St) (c : Gn) : St :=
  { x := fadd s.x (pairF c.c00 (fsub n.x p.x) c.c01 (fsub n.v p.v)),
    v := fadd s.v (pairF c.c10 (fsub n.x p.x) c.c11 (fsub n.v p.v)),
    pxx := fadd s.pxx (pairF (pairF c.c00 (fsub n.pxx p.pxx) c.c01 (fsub n.pxv p.pxv)) c.c00 (pairF c.c00 (fsub n.pxv p.pxv) c.c01 (fsub n.pvv p.pvv)) c.c01),
    pxv := fadd s.pxv (pairF (pairF c.c00 (fsub n.pxx p.pxx) c.c01 (fsub n.pxv p.pxv)) c.c10 (pairF c.c00 (fsub n.pxv p.pxv) c.c01 (fsub n.pvv p.pvv)) c.c11),
    pvv := fadd s.pvv (pairF (pairF c.c10 (fsub n.pxx p.pxx) c.c11 (fsub n.pxv p.pxv)) c.c10 (pairF c.c10 (fsub n.pxv p.pxv) c.c11 (fsub n.pvv p.pvv)) c.c11) }
def nnS (s : St) : St := { s with pxx := nnF s.pxx, pvv := nnF s.pvv }
def gainF (s p n : St) (dt d : Nat) : St := nnS (gain0F s p n (gnF s p dt d))
def detF (p : St) : Nat := crossF p.pxx p.pvv p.pxv p.pxv
def stepF (s : St) (dt q : Nat) (n : St) : St :=
  if cgt (detF (aheadF s dt q)) 0 && decide (Fin (detF (aheadF s dt q))) then
    if finS (gainF s (aheadF s dt q) n dt (detF (aheadF s dt q))) then gainF s (aheadF s dt q) n dt (detF (aheadF s dt q)) else s
  else s
theorem nnF_is {x X : Nat} (h : Is x X) : Is (nnF x) (nnF X) := by
  unfold nnF; rw [clt_is h (Is.refl 0)]; split
  · exact Is.refl _
  · exact h
theorem finS_is {s S : St} (h : IsS s S) : finS s = finS S := by
  unfold finS; simp only [is_fin h.x, is_fin h.v, is_fin h.pxx, is_fin h.pxv, is_fin h.pvv]
theorem IsS.eq {s S : St} (h : IsS s S) (hf : finS S = true) : s = S := by
  unfold finS at hf; simp only [Bool.and_eq_true, decide_eq_true_eq] at hf
  obtain ⟨⟨⟨⟨a, b⟩, c⟩, d⟩, e⟩ := hf
  cases s; cases S
  have h1 := h.x.eq a.not_nan; have h2 := h.v.eq b.not_nan; have h3 := h.pxx.eq c.not_nan; have h4 := h.pxv.eq d.not_nan; have h5 := h.pvv.eq e.not_nan
  simp only at h1 h2 h3 h4 h5; subst h1; subst h2; subst h3; subst h4; subst h5; rfl
theorem pairF_is {a b c d A B C D : Nat} (ha : Is a A) (hb : Is b B) (hc : Is c C) (hd : Is d D) : pairF a b c d = pairF A B C D := by
  unfold pairF; rw [is_fmul ha hb, is_fmul hc hd]
theorem crossF_is {a b c d A B C D : Nat} (ha : Is a A) (hb : Is b B) (hc : Is c C) (hd : Is d D) : crossF a b c d = crossF A B C D := by
  unfold crossF; rw [is_fmul ha hb, is_fmul hc hd]
/-! a row from behind: bkF l dt q k is the answer at place l.length - 1 - k -/
def bkF (l : List St) (sec : List Nat) (q : Nat) : Nat → St
  | 0 => l.getD (l.length - 1) ⟨0, 0, 0, 0, 0⟩
  | k + 1 => stepF (l.getD (l.length - 1 - (k + 1)) ⟨0, 0, 0, 0, 0⟩) (sec.getD (l.length - 1 - (k + 1)) 0) q (bkF l sec q k)
def backL (l : List St) (sec : List Nat) (q : Nat) : List St := (List.range l.length).map fun i => bkF l sec q (l.length - 1 - i)
def okT (t : Nat) : Bool := decide (Fin t) && !(clt t 0)
def backE (l : List St) (sec : List Nat) (q : Nat) : Int :=
  if 1024 < l.length then 3 else if sec.length ≠ l.length - 1 then 5 else if !(l.all mayF) then 6 else if !(okT q && sec.all okT) then 6 else 0
def backF (l : List St) (sec : List Nat) (q : Nat) : List St × Int := (if backE l sec q = 0 then backL l sec q else [], backE l sec q)
/-! the line -/
def addL : List Nat → Nat
  | [] => 0
  | x :: l => l.foldl fadd x
def finL (l : List Nat) : Bool := l.all fun x => decide (Fin x)
def mean (l : List Nat) : Nat := fdiv (addL l) (floatOfInt .f64 l.length)
def sqL (t : List Nat) : List Nat := t.map fun a => fmul (fsub a (mean t)) (fsub a (mean t))
def prL (t x : List Nat) : List Nat := (t.zip x).map fun p => fmul (fsub p.1 (mean t)) (fsub p.2 (mean x))
def lineS (t x : List Nat) : Nat := fdiv (addL (prL t x)) (addL (sqL t))
def lineA (t x : List Nat) : Nat := fsub (mean x) (fmul (lineS t x) (mean t))
def lineE (t x : List Nat) : Int :=
  if t.length ≠ x.length then 5 else if 1024 < t.length then 3 else if t.length < 2 then 2 else if !(finL t && finL x) then 6
  else if ceq (addL (sqL t)) 0 then 6 else if !(decide (Fin (lineS t x)) && decide (Fin (lineA t x))) then 6 else 0
/-! the turns -/
def slope (t x : List Nat) (i : Nat) : Nat := fdiv (fsub (x.getD (i + 1) 0) (x.getD i 0)) (fsub (t.getD (i + 1) 0) (t.getD i 0))
def turnsAt (t x : List Nat) (m i : Nat) : Bool := cgt (fabs (fsub (slope t x i) (slope t x (i - 1)))) m
def upK (t : List Nat) (k : Nat) : Bool := (List.range k).all fun i => clt (t.getD i 0) (t.getD (i + 1) 0)
def upF (t : List Nat) : Bool := upK t (t.length - 1)
def turnsE (t x : List Nat) (m : Nat) : Int :=
  if t.length ≠ x.length then 5 else if 1024 < t.length then 3 else if !(finL t && finL x) then 6 else if Nan m then 6 else if !upF t then 2 else 0
def turnsK (t x : List Nat) (m k : Nat) : List Nat := ((List.range k).filter fun i => decide (1 ≤ i) && turnsAt t x m i)
def turnsL (t x : List Nat) (m : Nat) : List Nat := turnsK t x m (t.length - 1)
def turnsR (t x : List Nat) (m : Nat) : List Nat := if turnsE t x m = 0 then turnsL t x m else []
theorem upK_succ (t : List Nat) (k : Nat) : upK t (k + 1) = (upK t k && clt (t.getD k 0) (t.getD (k + 1) 0)) := by
  unfold upK; rw [List.range_succ, List.all_append]; simp
theorem turnsK_succ (t x : List Nat) (m k : Nat) : turnsK t x m (k + 2) = turnsK t x m (k + 1) ++ (if turnsAt t x m (k + 1) then [k + 1] else []) := by
  unfold turnsK; rw [List.range_succ, List.filter_append]; congr 1
  by_cases h : turnsAt t x m (k + 1) = true <;> simp [h]
theorem turnsK_one (t x : List Nat) (m : Nat) : turnsK t x m 1 = [] := by
  unfold turnsK; simp [List.range_succ]
theorem turnsK_zero (t x : List Nat) (m : Nat) : turnsK t x m 0 = [] := rfl
theorem turnsK_len (t x : List Nat) (m k : Nat) : (turnsK t x m k).length ≤ k := by
  unfold turnsK; exact Nat.le_trans (List.length_filter_le _ _) (by simp)
theorem upK_false {t : List Nat} {j k : Nat} (h : clt (t.getD j 0) (t.getD (j + 1) 0) = false) (hj : j < k) : upK t k = false := by
  unfold upK; rw [List.all_eq_false]; exact ⟨j, List.mem_range.2 hj, by rw [h]; decide⟩
theorem cle_clt {a b : Nat} (ha : ¬ Nan a) (hb : ¬ Nan b) : cle b a = !(clt a b) := by
  rw [Bool.eq_iff_iff, Bool.not_eq_true', ← Bool.not_eq_true, cle_iff, clt_iff]
  simp only [ha, hb, not_false_eq_true, true_and]
  grind
end Lk
