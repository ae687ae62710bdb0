import Derived.Test.YtdngkeefbpffcaaPuA
import Derived.Test.YtdngkeefbpffcaaFnQ
set_option autoImplicit false
set_option linter.unusedVariables false
namespace Go.Proofs.Ytdngkeefbpffcaa
open Go.RowKit Lk Rs Pl Fo
theorem frD_le {E c x off : Int} (hE : 1 ≤ E) (x0 : 0 ≤ x) (x1 : x < E) (o0 : 0 ≤ off) : (∃ k : Int, -(min off E) ≤ k ∧ k ≤ min off E ∧ (c % E + k) % E = x) ↔ frD x c E ≤ off := by
  unfold frD
  have d0 := Int.emod_nonneg (x - c) (b := E) (by omega)
  have d1 := Int.emod_lt_of_pos (x - c) (b := E) (by omega)
  have key : ∀ k : Int, (c % E + k) % E = x ↔ (x - c) % E = k % E := fun k => by
    rw [Int.emod_add_emod]
    constructor
    · intro h
      rw [← h, Int.sub_eq_add_neg, Int.emod_add_emod, ← Int.sub_eq_add_neg, show c + k - c = k by omega]
    · intro h
      have : (c + (x - c) % E) % E = (c + k % E) % E := by rw [h]
      rw [Int.add_emod_emod, Int.add_emod_emod, show c + (x - c) = x by omega, Int.emod_eq_of_lt x0 x1] at this
      exact this.symm
  constructor
  · rintro ⟨k, k1, k2, h⟩
    rw [key] at h
    by_cases k0 : 0 ≤ k
    · by_cases kE : k < E
      · rw [Int.emod_eq_of_lt k0 kE] at h; omega
      · obtain rfl : k = E := by omega
        rw [Int.emod_self] at h; omega
    · by_cases kE : -E < k
      · have e : k % E = k + E := by
          have := Int.add_emod_right (a := k) (b := E)
          rw [← this, Int.emod_eq_of_lt (by omega) (by omega)]
        rw [e] at h; omega
      · obtain rfl : k = -E := by omega
        rw [Int.neg_emod_self] at h; omega
  · intro h
    by_cases hd : (x - c) % E ≤ off
    · exact ⟨(x - c) % E, by omega, by omega, by rw [key, Int.emod_emod_of_dvd _ (Int.dvd_refl E)]⟩
    · refine ⟨(x - c) % E - E, by omega, by omega, ?_⟩
      rw [key, Int.sub_emod_right, Int.emod_emod_of_dvd _ (Int.dvd_refl E)]
theorem mk_one {E : Nat} {c off : Int} {x : Nat} (hE : 1 ≤ E) (o0 : 0 ≤ off) : mk E (min off E) [c] (x % E) = decide (frD ((x % E : Nat) : Int) c E ≤ off) := by
  rw [Bool.eq_iff_iff, decide_eq_true_eq, ← frD_le (c := c) (x := ((x % E : Nat) : Int)) (off := off) (E := E) (by omega) (by omega) (by have := Nat.mod_lt x (show E > 0 by omega); omega) o0]
  unfold mk
  simp only [List.any_cons, List.any_nil, Bool.or_false, List.any_eq_true, List.mem_range, decide_eq_true_eq]
  constructor
  · rintro ⟨d, hd, h⟩
    exact ⟨(d : Int) - min off E, by omega, by omega, h⟩
  · rintro ⟨k, k1, k2, h⟩
    exact ⟨(k + min off E).toNat, by omega, by rw [Int.toNat_of_nonneg (by omega), show k + min off E - min off E = k by omega]; exact h⟩
theorem frD_self (x r m : Int) : frD (x % m) r m = frD x r m := by unfold frD; rw [Int.emod_sub_emod]
theorem farL_le (x off : Int) : ∀ (l : List (Int × Int)) (s : Int), farL x l s ≤ off ↔ s ≤ off ∧ ∀ p ∈ l, frD x p.1 p.2 ≤ off
  | [], s => by simp [farL]
  | (r, m) :: l, s => by
    rw [farL, farL_le x off l]
    constructor
    · rintro ⟨h1, h2⟩
      refine ⟨by omega, fun p hp => ?_⟩
      rcases List.mem_cons.1 hp with rfl | hp
      · simp only; omega
      · exact h2 p hp
    · rintro ⟨h1, h2⟩
      have := h2 (r, m) (by simp)
      simp only at this
      exact ⟨by omega, fun p hp => h2 p (by simp [hp])⟩
/-- one cell a beat -/
structure One1 where
  n : Int
  c : Int
def askN (L : List One1) : List Ask1 := L.map fun a => ⟨a.n, [a.c]⟩
def okN (L : List One1) : Prop := ∀ a ∈ L, 1 ≤ a.n ∧ a.n ≤ 300
theorem hit_far {L : List One1} {off : Int} (h : okN L) (o0 : 0 ≤ off) (x : Nat) : hitR ((askN L).map fun a => grd a.n) ((askN L).map (·.C)) off x = decide (farL x ((L.map (·.c)).zip (L.map (·.n))) 0 ≤ off) := by
  rw [Bool.eq_iff_iff, decide_eq_true_eq, farL_le]
  have e1 : ((askN L).map fun a => grd a.n) = L.map fun a => grd a.n := by unfold askN; rw [List.map_map]; rfl
  have e2 : ((askN L).map (·.C)) = L.map fun a => [a.c] := by unfold askN; rw [List.map_map]; rfl
  have e3 : ∀ (f : One1 → Bt) (g : One1 → List Int), (L.map f).zip (L.map g) = L.map fun a => (f a, g a) := fun f g => by rw [List.zip_map']
  have e4 : (L.map (·.c)).zip (L.map (·.n)) = L.map fun a => (a.c, a.n) := by rw [List.zip_map']
  unfold hitR
  rw [e1, e2, e3, e4, List.all_eq_true]
  simp only [List.mem_map, forall_exists_index, and_imp, forall_apply_eq_imp_iff₂]
  have one : ∀ a ∈ L, (mk (grd a.n).e.toNat (min off (grd a.n).e) [a.c] (x % (grd a.n).e.toNat) = true ↔ frD x a.c a.n ≤ off) := fun a ha => by
    obtain ⟨n1, n2⟩ := h a ha
    show mk a.n.toNat (min off a.n) [a.c] (x % a.n.toNat) = true ↔ _
    have en : ((a.n.toNat : Nat) : Int) = a.n := Int.toNat_of_nonneg (by omega)
    have := mk_one (E := a.n.toNat) (c := a.c) (off := off) (x := x) (by omega) o0
    rw [en] at this
    rw [this, decide_eq_true_eq, Int.natCast_emod, en, frD_self]
  constructor
  · intro hh
    exact ⟨o0, fun a ha => (one a ha).1 (hh a ha)⟩
  · rintro ⟨_, hh⟩ a ha
    exact (one a ha).2 (hh a ha)
theorem res_near {L : List One1} {off : Int} (h : okN L) (o0 : 0 ≤ off) : ∀ k : Nat, resL (hitR ((askN L).map fun a => grd a.n) ((askN L).map (·.C)) off) k = nearL ((L.map (·.c)).zip (L.map (·.n))) off k
  | 0 => rfl
  | k + 1 => by
    have ih := res_near h o0 k
    have hf := hit_far h o0 k
    by_cases c : farL k ((L.map (·.c)).zip (L.map (·.n))) 0 ≤ off
    · rw [near_yes c, resL_yes (by rw [hf]; exact decide_eq_true c), ih]
    · rw [near_no c, resL_no (by rw [hf]; exact decide_eq_false c), ih]
theorem near_len (L : List (Int × Int)) (off : Int) : ∀ k : Nat, (nearL L off k).length ≤ k
  | 0 => Nat.le_refl _
  | k + 1 => by
    have := near_len L off k
    by_cases c : farL k L 0 ≤ off
    · rw [near_yes c, List.length_append]; simp; omega
    · rw [near_no c]; omega
/-- both answers are one -/
theorem one_near {L : List One1} (off : Int) (h8 : L.length ≤ 6) (h : okN L) : resW ((askN L).map fun a => grd a.n) ((askN L).map (·.C)) off 3000 = nearW (L.map (·.c)) (L.map (·.n)) off 3000 := by
  have l1 : longC (((askN L).map (·.C)).take (min ((askN L).map fun a => grd a.n).length ((askN L).map (·.C)).length)) = false := by
    unfold longC
    rw [List.any_eq_false]
    intro C hC
    obtain ⟨a, ha, rfl⟩ := List.mem_map.1 (List.mem_of_mem_take hC)
    obtain ⟨b, _, rfl⟩ := List.mem_map.1 ha
    simp
  have l2 : firstE (((askN L).map fun a => grd a.n).take (min ((askN L).map fun a => grd a.n).length ((askN L).map (·.C)).length)) = 0 := firstE_all fun t ht => by
    obtain ⟨a, ha, rfl⟩ := List.mem_map.1 (List.mem_of_mem_take ht)
    obtain ⟨b, hb, rfl⟩ := List.mem_map.1 ha
    have := h b hb
    exact grd_ok this.1 (by simp only; omega)
  have r0 : readyE (L.map (·.c)) (L.map (·.n)) = 0 := by
    unfold readyE
    rw [if_neg (by simp; omega), if_neg]
    unfold badM
    rw [List.any_eq_true]
    rintro ⟨p, hp, hb⟩
    rw [List.zip_map'] at hp
    obtain ⟨a, ha, rfl⟩ := List.mem_map.1 hp
    have := h a ha
    simp only [decide_eq_true_eq] at hb
    omega
  by_cases o0 : off < 0
  · have a : resW ((askN L).map fun a => grd a.n) ((askN L).map (·.C)) off 3000 = ([], 2) := by
      unfold resW
      rw [if_neg (by simp [askN]; omega), if_neg (by rw [l1]; simp), if_neg (by rw [l2]; simp), if_pos (.inl o0)]
    have b : nearW (L.map (·.c)) (L.map (·.n)) off 3000 = ([], 2) := by
      unfold nearW
      rw [if_neg (by rw [r0]; simp), if_pos (.inl o0)]
    rw [a, b]
  · have e := res_near h (by omega : 0 ≤ off) 3000
    have l := near_len ((L.map (·.c)).zip (L.map (·.n))) off 3000
    have a : resW ((askN L).map fun a => grd a.n) ((askN L).map (·.C)) off 3000 = (nearL ((L.map (·.c)).zip (L.map (·.n))) off 3000, 0) := by
      unfold resW
      rw [if_neg (by simp [askN]; omega), if_neg (by rw [l1]; simp), if_neg (by rw [l2]; simp), if_neg (by omega), if_neg (by omega), show (3000 : Int).toNat = 3000 from rfl, e, if_neg (by omega)]
    have b : nearW (L.map (·.c)) (L.map (·.n)) off 3000 = (nearL ((L.map (·.c)).zip (L.map (·.n))) off 3000, 0) := by
      unfold nearW
      rw [if_neg (by rw [r0]; simp), if_neg (by omega), if_neg (by omega), show (3000 : Int).toNat = 3000 from rfl, if_neg (by omega)]
    rw [a, b]
end Go.Proofs.Ytdngkeefbpffcaa
