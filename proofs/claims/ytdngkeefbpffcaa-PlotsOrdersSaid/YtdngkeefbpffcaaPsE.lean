import Derived.Test.YtdngkeefbpffcaaPsC
set_option autoImplicit false
set_option linter.unusedVariables false
namespace Pl
open Lk
section
variable {lt : Nat → Nat → Bool}
/-- a list whose first part is one place -/
theorem case_one (h : WO lt) {D E : List Nat} {p q i : Nat} (hp : Pre lt D p (p + 1) q) (hl : E.length = D.length) (i1 : p + 1 ≤ i) (i2 : i ≤ q) (hE : ∀ k, gd E k = rotF (gd D) p (p + 1) i k)
    (ha : ∀ t, p + 1 ≤ t → t < i → lt (gd D t) (gd D p) = true) (hb : ∀ t, i ≤ t → t < q → lt (gd D t) (gd D p) = false) : Post lt D E p q := by
  obtain ⟨h1, h2, h3⟩ := halves h hp (Nat.le_refl _) (Nat.le_succ _) i1 i2 hE (fun a b _ _ _ _ => by omega) (fun a b a1 a2 b1 b2 => by
    obtain rfl : a = p := by omega
    exact .inl (ha b b1 b2))
  have e : p + (i - (p + 1)) = i - 1 := by omega
  rw [e] at h1 h2 h3
  refine ⟨(rot_sm hl (Nat.le_succ _) i1 hE).wide (Nat.le_refl _) i2, srt_join h (h1.flat (by omega) (Nat.le_refl _) (by omega)) (srt_join h h2.s1 h2.s2 fun a b a1 a2 b1 b2 => ?_) h3⟩
  obtain rfl : a = i - 1 := by omega
  have ea : gd E (i - 1) = gd D p := by
    rw [hE]; unfold rotF
    rw [if_pos (by omega), if_neg (by omega)]
    congr 1; omega
  have eb : gd E b = gd D b := by rw [hE]; unfold rotF; rw [if_neg (by omega)]
  rw [ea, eb]
  exact .inr ⟨hb b b1 b2, hp.pl p b (Nat.le_refl _) (by omega) (by omega) b2⟩
/-- .. whose second part is one place -/
theorem case_last (h : WO lt) {D E : List Nat} {p m i : Nat} (hp : Pre lt D p m (m + 1)) (hl : E.length = D.length) (i1 : p ≤ i) (i2 : i ≤ m) (hE : ∀ k, gd E k = rotF (gd D) i m (m + 1) k)
    (ha : ∀ t, p ≤ t → t < i → lt (gd D m) (gd D t) = false) (hb : ∀ t, i ≤ t → t < m → lt (gd D m) (gd D t) = true) : Post lt D E p (m + 1) := by
  obtain ⟨h1, h2, h3⟩ := halves h hp i1 i2 (Nat.le_succ _) (Nat.le_refl _) hE (fun a b _ _ _ _ => by omega) (fun a b a1 a2 b1 b2 => by
    obtain rfl : b = m := by omega
    exact .inl (hb a a1 a2))
  have e : i + (m + 1 - m) = i + 1 := by omega
  rw [e] at h1 h2 h3
  refine ⟨(rot_sm hl i2 (Nat.le_succ _) hE).wide i1 (Nat.le_refl _), srt_join h (srt_join h h1.s1 h1.s2 fun a b a1 a2 b1 b2 => ?_) (h2.flat (by omega) (by omega) (Nat.le_refl _)) h3⟩
  obtain rfl : b = i := by omega
  have ea : gd E b = gd D m := by
    rw [hE]; unfold rotF
    rw [if_pos (by omega), if_pos (by omega)]
    congr 1; omega
  have eb : gd E a = gd D a := by rw [hE]; unfold rotF; rw [if_neg (by omega)]
  rw [ea, eb]
  exact .inr ⟨ha a a1 a2, hp.pl a m a1 (by omega) (Nat.le_refl _) (by omega)⟩
/-- where the search began and may end -/
def st0 (p m q : Nat) : Nat := if (p + q) / 2 < m then (p + q) / 2 + m - q else p
def st1 (p m q : Nat) : Nat := if (p + q) / 2 < m then (p + q) / 2 else m
theorem st_bd {p m q : Nat} (h1 : p < m) (h2 : m < q) : p ≤ st0 p m q ∧ st0 p m q ≤ st1 p m q ∧ st1 p m q ≤ m ∧ st1 p m q ≤ (p + q) / 2 ∧ (p + q) / 2 + m - q ≤ st0 p m q ∧ p ≤ (p + q) / 2 := by
  unfold st0 st1
  split <;> omega
/-- the search's own facts -/
structure Fnd (lt : Nat → Nat → Bool) (D : List Nat) (p m q s r : Nat) : Prop where
  s0 : st0 p m q ≤ s
  sr : s ≤ r
  r1 : r ≤ st1 p m q
  no : ∀ c, st0 p m q ≤ c → c < s → lt (gd D ((p + q) / 2 + m - 1 - c)) (gd D c) = false
  yes : ∀ c, r ≤ c → c < st1 p m q → lt (gd D ((p + q) / 2 + m - 1 - c)) (gd D c) = true
theorem Fnd.start {D : List Nat} {p m q : Nat} (h1 : p < m) (h2 : m < q) : Fnd lt D p m q (st0 p m q) (st1 p m q) :=
  ⟨Nat.le_refl _, (st_bd h1 h2).2.1, Nat.le_refl _, fun c _ _ => by omega, fun c _ _ => by omega⟩
theorem Fnd.up (h : WO lt) {D : List Nat} {p m q s r c : Nat} (f : Fnd lt D p m q s r) (hp : Pre lt D p m q) (h1 : p < m) (h2 : m < q) (c1 : s ≤ c) (c2 : c < r) (hc : lt (gd D ((p + q) / 2 + m - 1 - c)) (gd D c) = false) : Fnd lt D p m q (c + 1) r := by
  obtain ⟨b1, b2, b3, b4, b5, b6⟩ := st_bd h1 h2
  have f0 := f.s0
  have f1 := f.r1
  refine ⟨by omega, by omega, f1, fun d d1 d2 => ?_, f.yes⟩
  have e1 := srt_le h hp.s1 (i := d) (j := c) (by omega) (by omega) (by omega)
  have e2 := srt_le h hp.s2 (i := (p + q) / 2 + m - 1 - c) (j := (p + q) / 2 + m - 1 - d) (by omega) (by omega) (by omega)
  exact h.nt _ _ _ e2 (h.nt _ _ _ hc e1)
theorem Fnd.down (h : WO lt) {D : List Nat} {p m q s r c : Nat} (f : Fnd lt D p m q s r) (hp : Pre lt D p m q) (h1 : p < m) (h2 : m < q) (c1 : s ≤ c) (c2 : c < r) (hc : lt (gd D ((p + q) / 2 + m - 1 - c)) (gd D c) = true) : Fnd lt D p m q s c := by
  obtain ⟨b1, b2, b3, b4, b5, b6⟩ := st_bd h1 h2
  have f0 := f.s0
  have f1 := f.r1
  refine ⟨f0, c1, by omega, f.no, fun d d1 d2 => ?_⟩
  have e1 := srt_le h hp.s1 (i := c) (j := d) (by omega) d1 (by omega)
  have e2 := srt_le h hp.s2 (i := (p + q) / 2 + m - 1 - d) (j := (p + q) / 2 + m - 1 - c) (by omega) (by omega) (by omega)
  rcases h.sp (gd D d) hc with k | k
  · rcases h.sp (gd D ((p + q) / 2 + m - 1 - d)) k with u | u
    · rw [e2] at u; cases u
    · exact u
  · rw [e1] at k; cases k
/-- what is found parts both lists -/
theorem Fnd.parts (h : WO lt) {D : List Nat} {p m q s : Nat} (f : Fnd lt D p m q s s) (hp : Pre lt D p m q) (h1 : p < m) (h2 : m < q) :
    (∀ i j, p ≤ i → i < s → (p + q) / 2 + m - s ≤ j → j < q → ld lt (gd D i) (gd D j)) ∧ ∀ i j, s ≤ i → i < m → m ≤ j → j < (p + q) / 2 + m - s → ld lt (gd D j) (gd D i) := by
  obtain ⟨b1, b2, b3, b4, b5, b6⟩ := st_bd h1 h2
  have f0 := f.s0
  have f1 := f.r1
  have chain : ∀ {x y z : Nat}, (x = y ∨ ld lt x y) → ld lt y z → ld lt x z := fun a b => by
    rcases a with rfl | a
    · exact b
    · exact ld_tr h a b
  have chain2 : ∀ {x y z : Nat}, ld lt x y → (y = z ∨ ld lt y z) → ld lt x z := fun a b => by
    rcases b with rfl | b
    · exact a
    · exact ld_tr h a b
  constructor
  · intro i j i1 i2 j1 j2
    by_cases c : s = st0 p m q
    · exfalso
      unfold st0 at c
      split at c <;> omega
    · have no := f.no (s - 1) (by omega) (by omega)
      rw [show (p + q) / 2 + m - 1 - (s - 1) = (p + q) / 2 + m - s by omega] at no
      have k : ld lt (gd D (s - 1)) (gd D ((p + q) / 2 + m - s)) := .inr ⟨no, hp.pl _ _ (by omega) (by omega) (by omega) (by omega)⟩
      refine chain2 (chain (y := gd D (s - 1)) ?_ k) ?_
      · by_cases e : i = s - 1
        · exact .inl (by rw [e])
        · exact .inr (hp.s1 _ _ i1 (by omega) (by omega))
      · by_cases e : j = (p + q) / 2 + m - s
        · exact .inl (by rw [e])
        · exact .inr (hp.s2 _ _ (by omega) (by omega) j2)
  · intro i j i1 i2 j1 j2
    by_cases c : s = st1 p m q
    · exfalso
      unfold st1 at c
      split at c <;> omega
    · have yes := f.yes s (Nat.le_refl _) (by omega)
      rw [show (p + q) / 2 + m - 1 - s = (p + q) / 2 + m - s - 1 by omega] at yes
      have k : ld lt (gd D ((p + q) / 2 + m - s - 1)) (gd D s) := .inl yes
      refine chain2 (chain (y := gd D ((p + q) / 2 + m - s - 1)) ?_ k) ?_
      · by_cases e : j = (p + q) / 2 + m - s - 1
        · exact .inl (by rw [e])
        · exact .inr (hp.s2 _ _ j1 (by omega) (by omega))
      · by_cases e : i = s
        · exact .inl (by rw [e])
        · exact .inr (hp.s1 _ _ (by omega) (by omega) i2)
end
end Pl
