import Derived.Test.YteejnfjlfoeblaaTuA
import Derived.Test.YteejnfjlfoeblaaFoC
import Derived.Test.YteejnfjlfoeblaaFoJW
import Derived.Test.YteejnfjlfoeblaaFoQ
set_option autoImplicit false
set_option linter.unusedVariables false
namespace Go.Proofs.Yteejnfjlfoeblaa
open Go.RowKit Lk Rs Fo
theorem jn_03 : ∀ (l : List (Int × Int)) (x all : Int), (∀ p ∈ l, 1 ≤ p.2 ∧ p.2 ≤ 1099511627776) → (jn l x all).2.2 = 0 ∨ (jn l x all).2.2 = 3 ∨ (jn l x all).2.2 = 100
  | [], x, all, _ => .inl rfl
  | (r, m) :: l, x, all, h => by
    obtain ⟨h1, h2⟩ := h (r, m) (List.mem_cons_self ..)
    simp only at h1 h2
    rw [jn, if_neg (by omega)]
    split
    · exact .inr (.inr rfl)
    · split
      · exact .inr (.inl rfl)
      · exact jn_03 l _ _ fun p hp => h p (List.mem_cons_of_mem _ hp)
def prs (L : List Ask1) (X : Int) : List (Int × Int) := L.map fun a => (X % a.n, a.n)
theorem zip_prs (L : List Ask1) (X : Int) : (L.map fun a => X % a.n).zip (L.map (·.n)) = prs L X := by
  unfold prs
  induction L with
  | nil => rfl
  | cons a L ih => simp only [List.map_cons, List.zip_cons_cons]; rw [ih]
theorem prs_mod {L : List Ask1} {X : Int} : ∀ r m, (r, m) ∈ prs L X → X % m = r % m := by
  intro r m h
  obtain ⟨a, _, e⟩ := List.mem_map.1 h
  cases e
  rw [Int.emod_emod_of_dvd _ (Int.dvd_refl a.n)]
/-- Join, asked so -/
theorem joined {L : List Ask1} {X o : Int} (h8 : L.length ≤ 8) (h : ∀ a ∈ L, okA X o a) :
    (joinW (L.map fun a => X % a.n) (L.map (·.n))).2.2 = 3 ∨ ((joinW (L.map fun a => X % a.n) (L.map (·.n))).2.2 = 0 ∧ 1 ≤ (joinW (L.map fun a => X % a.n) (L.map (·.n))).2.1 ∧ (joinW (L.map fun a => X % a.n) (L.map (·.n))).1 = X % (joinW (L.map fun a => X % a.n) (L.map (·.n))).2.1 ∧
      ∀ z : Int, (∀ a ∈ L, z % a.n = X % a.n) → z % (joinW (L.map fun a => X % a.n) (L.map (·.n))).2.1 = X % (joinW (L.map fun a => X % a.n) (L.map (·.n))).2.1) := by
  have e : joinW (L.map fun a => X % a.n) (L.map (·.n)) = jn (prs L X) 0 1 := by
    unfold joinW; rw [if_neg (by simp; omega), zip_prs]
  rw [e]
  have hp : ∀ p ∈ prs L X, 1 ≤ p.2 ∧ p.2 ≤ 1099511627776 := fun p hp => by
    obtain ⟨a, ha, rfl⟩ := List.mem_map.1 hp
    have := h a ha
    exact ⟨this.1, by have := this.2.1; simp only; omega⟩
  rcases jn_03 _ 0 1 hp with c | c | c
  · right
    have t := jn_tells X (prs L X) 0 1 (by omega) (by omega) (by omega) (Int.emod_one X) prs_mod c
    obtain ⟨k1, k2, _⟩ := jn_ok (prs L X) 0 1 (by omega) (by omega) (by omega) c
    refine ⟨c, by omega, t, fun z hz => ?_⟩
    rw [← t]
    refine (jn_tells z (prs L X) 0 1 (by omega) (by omega) (by omega) (Int.emod_one z) (fun r m hm => ?_) c).symm
    obtain ⟨a, ha, e⟩ := List.mem_map.1 hm
    cases e
    rw [hz a ha, Int.emod_emod_of_dvd _ (Int.dvd_refl a.n)]
  · exact .inl c
  · exact absurd c (jn_from X _ 0 1 (by omega) (by omega) (by omega) (Int.emod_one X) prs_mod)
theorem farL_zero {x : Int} : ∀ (l : List (Int × Int)), farL x l 0 ≤ 0 ↔ ∀ p ∈ l, frD x p.1 p.2 ≤ 0
  | [] => by simp [farL]
  | (r, m) :: l => by
    have mono : ∀ (l : List (Int × Int)) (s : Int), s ≤ farL x l s := by
      intro l
      induction l with
      | nil => intro s; exact Int.le_refl _
      | cons p l ih => intro s; obtain ⟨r, m⟩ := p; have := ih (max s (frD x r m)); unfold farL; omega
    have ih := farL_zero (x := x) l
    have e : farL x ((r, m) :: l) 0 = farL x l (max 0 (frD x r m)) := rfl
    rw [e]
    constructor
    · intro h p hp
      have g := mono l (max 0 (frD x r m))
      have f0 : frD x r m ≤ 0 := by omega
      rcases List.mem_cons.1 hp with rfl | hp
      · exact f0
      · rw [show max 0 (frD x r m) = 0 by omega] at h
        exact ih.1 h p hp
    · intro h
      have f0 := h (r, m) (List.mem_cons_self ..)
      simp only at f0
      rw [show max 0 (frD x r m) = 0 by omega]
      exact ih.2 fun p hp => h p (List.mem_cons_of_mem _ hp)
theorem frD_zero {x r m : Int} (h : 1 ≤ m) : frD x r m ≤ 0 ↔ x % m = r % m := by
  unfold frD
  have a := Int.emod_nonneg (x - r) (b := m) (by omega)
  have b := Int.emod_lt_of_pos (x - r) (b := m) (by omega)
  have c : (x - r) % m = 0 ↔ x % m = r % m := by rw [Int.emod_eq_emod_iff_emod_sub_eq_zero]
  rw [← c]
  omega
theorem near_mem' {L : List (Int × Int)} {off v : Int} : ∀ {n : Nat}, v ∈ nearL L off n ↔ ∃ k : Nat, k < n ∧ v = k ∧ farL k L 0 ≤ off
  | 0 => by simp [nearL]
  | n + 1 => by
    have ih := near_mem' (L := L) (off := off) (v := v) (n := n)
    by_cases h : farL n L 0 ≤ off
    · rw [near_yes h, List.mem_append, ih, List.mem_singleton]
      constructor
      · rintro (⟨k, h1, h2, h3⟩ | rfl)
        · exact ⟨k, by omega, h2, h3⟩
        · exact ⟨n, by omega, rfl, h⟩
      · rintro ⟨k, h1, h2, h3⟩
        by_cases hk : k = n
        · subst hk; exact .inr h2
        · exact .inl ⟨k, by omega, h2, h3⟩
    · rw [near_no h, ih]
      constructor
      · rintro ⟨k, h1, h2, h3⟩; exact ⟨k, by omega, h2, h3⟩
      · rintro ⟨k, h1, h2, h3⟩
        have : k ≠ n := fun e => h (by subst e; exact h3)
        exact ⟨k, by omega, h2, h3⟩
theorem near_sorted' {L : List (Int × Int)} {off : Int} : ∀ n : Nat, (nearL L off n).Pairwise (· < ·)
  | 0 => List.Pairwise.nil
  | n + 1 => by
    by_cases h : farL n L 0 ≤ off
    · rw [near_yes h, List.pairwise_append]
      refine ⟨near_sorted' n, List.pairwise_singleton _ _, fun a ha b hb => ?_⟩
      rw [List.mem_singleton] at hb
      obtain ⟨k, h1, rfl, _⟩ := near_mem'.1 ha
      subst hb
      omega
    · rw [near_no h]; exact near_sorted' n
theorem near_len' {L : List (Int × Int)} {off : Int} : ∀ n : Nat, (nearL L off n).length ≤ n
  | 0 => Nat.le_refl _
  | n + 1 => by
    have := near_len' (L := L) (off := off) n
    by_cases h : farL n L 0 ≤ off
    · rw [near_yes h, List.length_append, List.length_singleton]; omega
    · rw [near_no h]; omega
theorem ready_asked {L : List Ask1} {X o : Int} (h8 : L.length ≤ 8) (h : ∀ a ∈ L, okA X o a) : readyE (L.map fun a => X % a.n) (L.map (·.n)) = 0 := by
  unfold readyE
  rw [if_neg (by simp; omega), zip_prs]
  have : badM (prs L X) = false := by
    unfold badM
    rw [List.any_eq_false]
    intro p hp
    obtain ⟨a, ha, rfl⟩ := List.mem_map.1 hp
    have := h a ha
    have := this.1
    have := (h a ha).2.1
    simp; omega
  rw [this]; rfl
/-- Near, asked so -/
theorem neared {L : List Ask1} {X o : Int} (h8 : L.length ≤ 8) (x0 : 0 ≤ X) (x1 : X < 65536) (h : ∀ a ∈ L, okA X o a) :
    nearW (L.map fun a => X % a.n) (L.map (·.n)) 0 65536 = (nearL (prs L X) 0 65536, 0) ∧
    ∀ all : Int, 65536 ≤ all → X < all → (∀ z : Int, (∀ a ∈ L, z % a.n = X % a.n) → z % all = X % all) → nearL (prs L X) 0 65536 = [X] := by
  constructor
  · unfold nearW
    have := near_len' (L := prs L X) (off := 0) 65536
    rw [ready_asked h8 h, if_neg (by simp), if_neg (by omega), if_neg (by omega), zip_prs, if_neg (by show ¬ 65536 < (nearL (prs L X) 0 65536).length; omega)]
    rfl
  · intro all a1 a2 hz
    have memX : X ∈ nearL (prs L X) 0 65536 := near_mem'.2 ⟨X.toNat, by omega, by omega, (farL_zero _).2 fun p hp => by
      obtain ⟨a, ha, rfl⟩ := List.mem_map.1 hp
      simp only
      rw [frD_zero (h a ha).1, Int.toNat_of_nonneg x0, Int.emod_emod_of_dvd _ (Int.dvd_refl a.n)]⟩
    have only : ∀ v ∈ nearL (prs L X) 0 65536, v = X := fun v hv => by
      obtain ⟨k, k1, rfl, k2⟩ := near_mem'.1 hv
      have := hz k fun a ha => by
        have := (farL_zero _).1 k2 (X % a.n, a.n) (List.mem_map.2 ⟨a, ha, rfl⟩)
        simp only at this
        rw [frD_zero (h a ha).1, Int.emod_emod_of_dvd _ (Int.dvd_refl a.n)] at this
        exact this
      rw [Int.emod_eq_of_lt (by omega) (by omega), Int.emod_eq_of_lt x0 a2] at this
      exact this
    have srt := near_sorted' (L := prs L X) (off := 0) 65536
    generalize nearL (prs L X) 0 65536 = l at memX only srt
    match l, memX, only, srt with
    | [v], _, only, _ => rw [only v (by simp)]
    | v :: u :: l, _, only, srt =>
      have e1 := only v (by simp)
      have e2 := only u (by simp)
      have := (List.pairwise_cons.1 srt).1 u (by simp)
      omega
end Go.Proofs.Yteejnfjlfoeblaa
