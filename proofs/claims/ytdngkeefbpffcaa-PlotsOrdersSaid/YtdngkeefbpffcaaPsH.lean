import Derived.Test.YtdngkeefbpffcaaPsF
set_option autoImplicit false
set_option linter.unusedVariables false
namespace Pl
open Lk
section
variable {lt : Nat → Nat → Bool}
theorem rot_hd {f : Nat → Nat} {j m : Nat} (h : j ≤ m) : rotF f j m (m + 1) j = f m := by
  unfold rotF
  rw [if_pos (by omega), if_pos (by omega)]
  congr 1; omega
theorem rot_lo {f : Nat → Nat} {j m k : Nat} (h : k < j) : rotF f j m (m + 1) k = f k := by
  unfold rotF
  rw [if_neg (by omega)]
/-- one element sinks: it is a rotation -/
theorem bub_rot {E : List Nat} {a m : Nat} (hm : m < E.length) : ∀ (j : Nat) (F : List Nat), a ≤ j → j ≤ m → F.length = E.length → (∀ x, gd F x = rotF (gd E) j m (m + 1) x) → (∀ t, j ≤ t → t < m → lt (gd E m) (gd E t) = true) →
    ∃ j', a ≤ j' ∧ j' ≤ m ∧ (bub lt a j F).length = E.length ∧ (∀ x, gd (bub lt a j F) x = rotF (gd E) j' m (m + 1) x) ∧ (∀ t, j' ≤ t → t < m → lt (gd E m) (gd E t) = true) ∧ (j' = a ∨ lt (gd E m) (gd E (j' - 1)) = false)
  | 0, F, h1, h2, hl, hF, ht => ⟨0, h1, h2, by rw [bub]; exact hl, by rw [bub]; exact hF, ht, .inl (by omega)⟩
  | j + 1, F, h1, h2, hl, hF, ht => by
    by_cases e : a = j + 1
    · rw [bub_stop lt F (by omega)]
      exact ⟨j + 1, h1, h2, hl, hF, ht, .inl e.symm⟩
    · have e1 : F.getD (j + 1) 0 = gd E m := (hF (j + 1)).trans (rot_hd h2)
      have e2 : F.getD j 0 = gd E j := (hF j).trans (rot_lo (Nat.lt_succ_self j))
      by_cases c : lt (gd E m) (gd E j) = true
      · rw [bub_yes lt F (by omega) (by rw [e1, e2]; exact c)]
        have nx := Go.Proofs.Ytdngkeefbpffcaa.rot_down (D := E) (E := F) (m := m) (k := j + 1) (by omega) h2 (by omega) hF
        rw [Nat.add_sub_cancel] at nx
        exact bub_rot hm j (swp F (j + 1)) (by omega) (by omega) (by rw [swp_len, hl]) (fun x => by unfold swp; rw [Nat.add_sub_cancel]; exact nx x) fun t t1 t2 => by
          by_cases u : t = j
          · rw [u]; exact c
          · exact ht t (by omega) t2
      · have c' : lt (gd E m) (gd E j) = false := by simpa using c
        rw [bub_no lt F (by rw [e1, e2]; exact c')]
        exact ⟨j + 1, h1, h2, hl, hF, ht, .inr c'⟩
/-- a part whose places rise, put in order by insertion -/
theorem ins_post (h : WO lt) {D : List Nat} {a : Nat} : ∀ (d : Nat), a + 1 + d ≤ D.length → (∀ i j, a ≤ i → i < j → j < a + 1 + d → gd D i < gd D j) → Post lt D (insF lt a (a + 1 + d) D) a (a + 1 + d)
  | 0, hl, hr => by
    rw [insF_start]
    exact ⟨Sm.refl _ _ _, Srt.one _ (by omega)⟩
  | d + 1, hl, hr => by
    obtain ⟨m1, s1⟩ := ins_post h d (by omega) (fun i j i1 i2 i3 => hr i j i1 i2 (by omega))
    rw [show a + 1 + (d + 1) = a + 1 + d + 1 by omega, insF_succ lt D (by omega)]
    generalize hE : insF lt a (a + 1 + d) D = E at *
    have lE : E.length = D.length := m1.len
    obtain ⟨j, j1, j2, j3, j4, j5, j6⟩ := bub_rot (lt := lt) (E := E) (a := a) (m := a + 1 + d) (by omega) (a + 1 + d) E (by omega) (Nat.le_refl _) rfl (fun x => by unfold rotF; split <;> (try split) <;> first | rfl | (congr 1; omega)) (fun t t1 t2 => by omega)
    have pr : Pre lt E a (a + 1 + d) (a + 1 + d + 1) := ⟨s1, Srt.one _ (by omega), fun i k i1 i2 k1 k2 => by
      obtain ⟨i', u1, u2, u3⟩ := m1.src i i1 i2
      obtain rfl : k = a + 1 + d := by omega
      rw [u3, m1.out (a + 1 + d) (by omega)]
      exact hr _ _ u1 (by omega) (by omega)⟩
    have po := case_last h pr j3 j1 j2 j4 (fun t t1 t2 => by
      rcases j6 with rfl | j6
      · omega
      · exact h.nt _ _ _ j6 (srt_le h s1 (i := t) (j := j - 1) t1 (by omega) (by omega))) j5
    exact ⟨(m1.wide (Nat.le_refl _) (Nat.le_succ _)).trans po.1, po.2⟩
/-- a block in order, that holds its own places -/
def Good (lt : Nat → Nat → Bool) (E : List Nat) (c d : Nat) : Prop := Srt lt (gd E) c d ∧ ∀ k, c ≤ k → k < d → c ≤ gd E k ∧ gd E k < d
/-- blocks of hi below A, blocks of lo from there -/
structure Bl (lt : Nat → Nat → Bool) (N : Nat) (E : List Nat) (lo hi A : Nat) : Prop where
  up : ∀ i, i * hi < A → i * hi < N → Good lt E (i * hi) (min (i * hi + hi) N)
  dn : ∀ i, A ≤ i * lo → i * lo < N → Good lt E (i * lo) (min (i * lo + lo) N)
theorem good_same {E E' : List Nat} {c d : Nat} (h : Good lt E c d) (e : ∀ k, c ≤ k → k < d → gd E' k = gd E k) : Good lt E' c d :=
  ⟨h.1.congr e, fun k k1 k2 => by rw [e k k1 k2]; exact h.2 k k1 k2⟩
theorem bl_step {N lo hi i : Nat} {E E' : List Nat} (h : Bl lt N E lo hi (i * hi)) (hp : Post lt E E' (i * hi) (min (i * hi + hi) N)) (hs : ∀ k, i * hi ≤ k → k < min (i * hi + hi) N → i * hi ≤ gd E k ∧ gd E k < min (i * hi + hi) N) : Bl lt N E' lo hi ((i + 1) * hi) := by
  obtain ⟨p1, p2⟩ := hp
  have e1 : (i + 1) * hi = i * hi + hi := by rw [Nat.add_mul, Nat.one_mul]
  refine ⟨fun c c1 c2 => ?_, fun c c1 c2 => good_same (h.dn c (by omega) c2) fun k k1 k2 => p1.out k (by omega)⟩
  by_cases u : c * hi < i * hi
  · have ci : c + 1 ≤ i := Nat.lt_of_mul_lt_mul_right u
    have := Nat.mul_le_mul_right hi ci
    rw [Nat.add_mul, Nat.one_mul] at this
    exact good_same (h.up c u c2) fun k k1 k2 => p1.out k (by omega)
  · have ci : c < i + 1 := Nat.lt_of_mul_lt_mul_right c1
    have e : c * hi = i * hi := by
      have := Nat.mul_le_mul_right hi (show c ≤ i by omega)
      omega
    rw [e]
    refine ⟨p2, fun k k1 k2 => ?_⟩
    obtain ⟨j, j1, j2, j3⟩ := p1.src k k1 k2
    rw [j3]
    exact hs j j1 j2
/-- two neighbouring blocks are what symMerge wants -/
theorem bl_pre {N bs i : Nat} {E : List Nat} (h : Bl lt N E bs (2 * bs) (i * (2 * bs))) (hm : i * (2 * bs) + bs < N) : Pre lt E (i * (2 * bs)) (i * (2 * bs) + bs) (min (i * (2 * bs) + 2 * bs) N) ∧ ∀ k, i * (2 * bs) ≤ k → k < min (i * (2 * bs) + 2 * bs) N → i * (2 * bs) ≤ gd E k ∧ gd E k < min (i * (2 * bs) + 2 * bs) N := by
  have e0 : i * (2 * bs) = (2 * i) * bs := by rw [← Nat.mul_assoc, Nat.mul_comm i 2]
  have e1 : (2 * i + 1) * bs = i * (2 * bs) + bs := by rw [Nat.add_mul, Nat.one_mul, ← e0]
  have a := h.dn (2 * i) (by omega) (by omega)
  have b := h.dn (2 * i + 1) (by omega) (by omega)
  rw [← e0] at a
  rw [e1] at b
  generalize hA : i * (2 * bs) = A at *
  have m1 : min (A + bs) N = A + bs := by omega
  have m2 : min (A + bs + bs) N = min (A + 2 * bs) N := by rw [show A + bs + bs = A + 2 * bs by omega]
  rw [m1] at a
  rw [m2] at b
  refine ⟨⟨a.1, b.1, fun x y x1 x2 y1 y2 => ?_⟩, fun k k1 k2 => ?_⟩
  · have := (a.2 x x1 x2).2
    have := (b.2 y y1 y2).1
    omega
  · by_cases u : k < A + bs
    · have := a.2 k k1 u; omega
    · have := b.2 k (by omega) k2; omega
/-- .. and where there is but one block left -/
theorem bl_last {N bs i : Nat} {E : List Nat} (h : Bl lt N E bs (2 * bs) (i * (2 * bs))) (hm : N ≤ i * (2 * bs) + bs) : Bl lt N E bs (2 * bs) ((i + 1) * (2 * bs)) := by
  by_cases u : i * (2 * bs) < N
  · have e0 : i * (2 * bs) = (2 * i) * bs := by rw [← Nat.mul_assoc, Nat.mul_comm i 2]
    have a := h.dn (2 * i) (by omega) (by omega)
    rw [← e0] at a
    have m1 : min (i * (2 * bs) + bs) N = N := by omega
    have m2 : min (i * (2 * bs) + 2 * bs) N = N := by omega
    rw [m1] at a
    exact bl_step h (by rw [m2]; exact ⟨Sm.refl _ _ _, a.1⟩) (by rw [m2]; exact a.2)
  · refine ⟨fun c c1 c2 => h.up c (by omega) c2, fun c c1 c2 => ?_⟩
    exfalso
    rw [Nat.add_mul, Nat.one_mul] at c1
    omega
theorem bl_next {N lo hi A : Nat} {E : List Nat} (h : Bl lt N E lo hi A) (hA : N ≤ A) : Bl lt N E hi (2 * hi) 0 := ⟨fun c c1 _ => by omega, fun c _ c2 => h.up c (by omega) c2⟩
theorem bl_end {N lo hi : Nat} {E : List Nat} (h : Bl lt N E lo hi 0) (hN : N ≤ lo) (h0 : 0 < N) : Good lt E 0 N := by
  have := h.dn 0 (by omega) (by omega)
  rw [Nat.zero_mul, Nat.zero_add, show min lo N = N by omega] at this
  exact this
theorem bl_start {N : Nat} {E : List Nat} (h : ∀ k, k < N → gd E k = k) : Bl lt N E 1 20 0 := ⟨fun c c1 _ => by omega, fun c _ c2 => by
  rw [Nat.mul_one] at c2 ⊢
  refine ⟨Srt.one _ (by omega), fun k k1 k2 => ?_⟩
  rw [h k (by omega)]
  omega⟩
/-- a block of twenty, not touched so far -/
theorem bl_rise {N i : Nat} {E : List Nat} (h : Bl lt N E 1 20 (i * 20)) (k : Nat) (k1 : i * 20 ≤ k) (k2 : k < N) : gd E k = k := by
  have a := (h.dn k (by omega) (by omega)).2 k (by omega) (by omega)
  omega
end
end Pl
