import Derived.Test.YtdngkeefbpffcaaPsB
set_option autoImplicit false
set_option linter.unusedVariables false
namespace Pl
open Lk
/-- a strict weak order -/
structure WO (lt : Nat → Nat → Bool) : Prop where
  irr : ∀ x, lt x x = false
  tr : ∀ x y z, lt x y = true → lt y z = true → lt x z = true
  nt : ∀ x y z, lt x y = false → lt y z = false → lt x z = false
section
variable {lt : Nat → Nat → Bool}
theorem WO.as (h : WO lt) {x y : Nat} (k : lt x y = true) : lt y x = false := by
  cases e : lt y x with
  | false => rfl
  | true => have := h.tr x y x k e; rw [h.irr] at this; cases this
theorem WO.sp (h : WO lt) {x y : Nat} (z : Nat) (k : lt x y = true) : lt x z = true ∨ lt z y = true := by
  cases e : lt x z with
  | true => exact .inl rfl
  | false =>
    cases e2 : lt z y with
    | true => exact .inr rfl
    | false => have := h.nt x z y e e2; rw [k] at this; cases this
/-- .. with the places' own order where it tells nothing -/
def ld (lt : Nat → Nat → Bool) (x y : Nat) : Prop := lt x y = true ∨ (lt y x = false ∧ x < y)
theorem ld_back (h : WO lt) {x y : Nat} (k : ld lt x y) : lt y x = false := by
  rcases k with k | k
  · exact h.as k
  · exact k.1
theorem ld_irr (h : WO lt) (x : Nat) : ¬ ld lt x x := by
  rintro (k | k)
  · rw [h.irr] at k; cases k
  · omega
theorem ld_tr (h : WO lt) {x y z : Nat} (a : ld lt x y) (b : ld lt y z) : ld lt x z := by
  rcases a with a | ⟨a1, a2⟩
  · rcases b with b | ⟨b1, b2⟩
    · exact .inl (h.tr _ _ _ a b)
    · rcases h.sp z a with k | k
      · exact .inl k
      · rw [b1] at k; cases k
  · rcases b with b | ⟨b1, b2⟩
    · rcases h.sp x b with k | k
      · rw [a1] at k; cases k
      · exact .inl k
    · exact .inr ⟨h.nt _ _ _ b1 a1, by omega⟩
theorem ld_tot (h : WO lt) {x y : Nat} (k : x ≠ y) : ld lt x y ∨ ld lt y x := by
  cases e : lt x y with
  | true => exact .inl (.inl e)
  | false =>
    cases e2 : lt y x with
    | true => exact .inr (.inl e2)
    | false => rcases Nat.lt_or_gt_of_ne k with c | c
               · exact .inl (.inr ⟨e2, c⟩)
               · exact .inr (.inr ⟨e, c⟩)
def Srt (lt : Nat → Nat → Bool) (f : Nat → Nat) (a b : Nat) : Prop := ∀ i j, a ≤ i → i < j → j < b → ld lt (f i) (f j)
theorem Srt.sub {f : Nat → Nat} {a b c d : Nat} (h : Srt lt f a b) (h1 : a ≤ c) (h2 : d ≤ b) : Srt lt f c d := fun i j p q r => h i j (by omega) q (by omega)
theorem Srt.one (f : Nat → Nat) {a b : Nat} (h : b ≤ a + 1) : Srt lt f a b := fun i j p q r => by omega
theorem Srt.congr {f g : Nat → Nat} {a b : Nat} (h : Srt lt f a b) (e : ∀ k, a ≤ k → k < b → g k = f k) : Srt lt g a b := fun i j p q r => by rw [e i p (by omega), e j (by omega) r]; exact h i j p q r
theorem Srt.shift {f g : Nat → Nat} {a b c : Nat} (h : Srt lt f (a + c) (b + c)) (e : ∀ k, a ≤ k → k < b → g k = f (k + c)) : Srt lt g a b := fun i j p q r => by rw [e i p (by omega), e j (by omega) r]; exact h _ _ (by omega) (by omega) (by omega)
theorem srt_join (h : WO lt) {f : Nat → Nat} {a c b : Nat} (h1 : Srt lt f a c) (h2 : Srt lt f c b) (hx : ∀ i j, a ≤ i → i < c → c ≤ j → j < b → ld lt (f i) (f j)) : Srt lt f a b := fun i j p q r => by
  by_cases k1 : j < c
  · exact h1 i j p q k1
  · by_cases k2 : i < c
    · exact hx i j p k2 (by omega) r
    · exact h2 i j (by omega) q r
theorem srt_le (h : WO lt) {f : Nat → Nat} {a b : Nat} (hs : Srt lt f a b) {i j : Nat} (h1 : a ≤ i) (h2 : i ≤ j) (h3 : j < b) : lt (f j) (f i) = false := by
  by_cases e : i = j
  · subst e; exact h.irr _
  · exact ld_back h (hs i j h1 (by omega) h3)
/-- what a merging leaves -/
structure Sm (D E : List Nat) (a b : Nat) : Prop where
  len : E.length = D.length
  out : ∀ k, ¬ (a ≤ k ∧ k < b) → gd E k = gd D k
  src : ∀ k, a ≤ k → k < b → ∃ j, a ≤ j ∧ j < b ∧ gd E k = gd D j
theorem Sm.refl (D : List Nat) (a b : Nat) : Sm D D a b := ⟨rfl, fun _ _ => rfl, fun k h1 h2 => ⟨k, h1, h2, rfl⟩⟩
theorem Sm.trans {D E F : List Nat} {a b : Nat} (h : Sm D E a b) (k : Sm E F a b) : Sm D F a b := ⟨k.len.trans h.len, fun x hx => (k.out x hx).trans (h.out x hx), fun x h1 h2 => by
  obtain ⟨y, y1, y2, y3⟩ := k.src x h1 h2
  obtain ⟨z, z1, z2, z3⟩ := h.src y y1 y2
  exact ⟨z, z1, z2, y3.trans z3⟩⟩
theorem Sm.wide {D E : List Nat} {a b c d : Nat} (h : Sm D E a b) (h1 : c ≤ a) (h2 : b ≤ d) : Sm D E c d := ⟨h.len, fun k hk => h.out k (by omega), fun k k1 k2 => by
  by_cases e : a ≤ k ∧ k < b
  · obtain ⟨j, j1, j2, j3⟩ := h.src k e.1 e.2
    exact ⟨j, by omega, by omega, j3⟩
  · exact ⟨k, k1, k2, h.out k e⟩⟩
theorem rot_sm {D E : List Nat} {a m b : Nat} (hl : E.length = D.length) (h1 : a ≤ m) (h2 : m ≤ b) (h : ∀ k, gd E k = rotF (gd D) a m b k) : Sm D E a b := ⟨hl, fun k hk => by rw [h k]; unfold rotF; rw [if_neg hk], fun k k1 k2 => by
  rw [h k]; unfold rotF
  rw [if_pos ⟨k1, k2⟩]
  split
  · exact ⟨k + (m - a), by omega, by omega, rfl⟩
  · exact ⟨k - (b - m), by omega, by omega, rfl⟩⟩
/-- what symMerge is given -/
structure Pre (lt : Nat → Nat → Bool) (D : List Nat) (a m b : Nat) : Prop where
  s1 : Srt lt (gd D) a m
  s2 : Srt lt (gd D) m b
  pl : ∀ i j, a ≤ i → i < m → m ≤ j → j < b → gd D i < gd D j
/-- .. and what it leaves -/
def Post (lt : Nat → Nat → Bool) (D E : List Nat) (a b : Nat) : Prop := Sm D E a b ∧ Srt lt (gd E) a b
/-- behind the rotation: both halves, one ahead of the other -/
theorem halves (h : WO lt) {D E : List Nat} {a m b s e : Nat} (hp : Pre lt D a m b) (a1 : a ≤ s) (a2 : s ≤ m) (a3 : m ≤ e) (a4 : e ≤ b) (hE : ∀ k, gd E k = rotF (gd D) s m e k)
    (x1 : ∀ i j, a ≤ i → i < s → e ≤ j → j < b → ld lt (gd D i) (gd D j)) (x2 : ∀ i j, s ≤ i → i < m → m ≤ j → j < e → ld lt (gd D j) (gd D i)) :
    Pre lt E a s (s + (e - m)) ∧ Pre lt E (s + (e - m)) e b ∧ ∀ i j, a ≤ i → i < s + (e - m) → s + (e - m) ≤ j → j < b → ld lt (gd E i) (gd E j) := by
  have eA1 : ∀ k, k < s → gd E k = gd D k := fun k hk => by rw [hE k]; unfold rotF; rw [if_neg (by omega)]
  have eB1 : ∀ k, s ≤ k → k < s + (e - m) → gd E k = gd D (k + (m - s)) := fun k k1 k2 => by rw [hE k]; unfold rotF; rw [if_pos (by omega), if_pos k2]
  have eA2 : ∀ k, s + (e - m) ≤ k → k < e → gd E k = gd D (k - (e - m)) := fun k k1 k2 => by rw [hE k]; unfold rotF; rw [if_pos (by omega), if_neg (by omega)]
  have eB2 : ∀ k, e ≤ k → gd E k = gd D k := fun k hk => by rw [hE k]; unfold rotF; rw [if_neg (by omega)]
  refine ⟨⟨(hp.s1.sub (Nat.le_refl _) a2).congr fun k k1 k2 => eA1 k k2, ?_, ?_⟩, ⟨?_, (hp.s2.sub a3 (Nat.le_refl _)).congr fun k k1 k2 => eB2 k k1, ?_⟩, ?_⟩
  · refine Srt.shift (f := gd D) (c := m - s) (hp.s2.sub (by omega) (by omega)) fun k k1 k2 => eB1 k k1 k2
  · intro i j i1 i2 j1 j2
    rw [eA1 i i2, eB1 j j1 j2]
    exact hp.pl _ _ i1 (by omega) (by omega) (by omega)
  · intro i j p q r
    rw [eA2 i p (by omega), eA2 j (by omega) r]
    exact hp.s1 _ _ (by omega) (by omega) (by omega)
  · intro i j i1 i2 j1 j2
    rw [eA2 i i1 i2, eB2 j j1]
    exact hp.pl _ _ (by omega) (by omega) (by omega) j2
  · intro i j i1 i2 j1 j2
    by_cases c1 : i < s
    · rw [eA1 i c1]
      by_cases c2 : j < e
      · rw [eA2 j j1 c2]
        exact hp.s1 _ _ i1 (by omega) (by omega)
      · rw [eB2 j (by omega)]
        exact x1 i j i1 c1 (by omega) j2
    · rw [eB1 i (by omega) i2]
      by_cases c2 : j < e
      · rw [eA2 j j1 c2]
        exact x2 _ _ (by omega) (by omega) (by omega) (by omega)
      · rw [eB2 j (by omega)]
        exact hp.s2 _ _ (by omega) (by omega) j2
/-- a half that has but one part is in order as it is -/
theorem Pre.flat {D : List Nat} {a m b : Nat} (h : Pre lt D a m b) (h1 : ¬ (a < m ∧ m < b)) (h2 : a ≤ m) (h3 : m ≤ b) : Srt lt (gd D) a b := by
  by_cases e : a = m
  · subst e; exact h.s2
  · have : m = b := by omega
    subst this; exact h.s1
/-- both halves merged -/
theorem whole (h : WO lt) {D E F G : List Nat} {a c b : Nat} (h1 : Sm D E a b) (hc1 : a ≤ c) (hc2 : c ≤ b) (hx : ∀ i j, a ≤ i → i < c → c ≤ j → j < b → ld lt (gd E i) (gd E j)) (p1 : Post lt E F a c) (p2 : Post lt F G c b) : Post lt D G a b := by
  obtain ⟨m1, s1⟩ := p1
  obtain ⟨m2, s2⟩ := p2
  refine ⟨h1.trans ((m1.wide (Nat.le_refl _) hc2).trans (m2.wide hc1 (Nat.le_refl _))), srt_join h (s1.congr fun k k1 k2 => m2.out k (by omega)) s2 fun i j i1 i2 j1 j2 => ?_⟩
  rw [m2.out i (by omega)]
  obtain ⟨i', u1, u2, u3⟩ := m1.src i i1 i2
  obtain ⟨j', v1, v2, v3⟩ := m2.src j j1 j2
  rw [u3, v3, m1.out j' (by omega)]
  exact hx i' j' u1 u2 v1 v2
end
end Pl
