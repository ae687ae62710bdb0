import Derived.Test.YtepoionjcjgnjaaFoK
set_option autoImplicit false
set_option linter.unusedVariables false
namespace Go.Proofs.Ytepoionjcjgnjaa
open Go.RowKit Lk Fo
theorem near_mem {L : List (Int × Int)} {off v : Int} : ∀ {n : Nat}, v ∈ nearL L off n ↔ ∃ k : Nat, k < n ∧ v = k ∧ farL k L 0 ≤ off
  | 0 => by simp [nearL]
  | n + 1 => by
    have ih := near_mem (L := L) (off := off) (v := v) (n := n)
    by_cases h : farL n L 0 ≤ off
    · rw [near_yes h, List.mem_append, ih, List.mem_singleton]
      constructor
      · rintro (⟨k, h1, h2, h3⟩ | rfl)
        · exact ⟨k, by omega, h2, h3⟩
        · exact ⟨n, by omega, rfl, h⟩
      · rintro ⟨k, h1, h2, h3⟩
        by_cases hk : k = n
        · subst hk; exact .inr h2
        · exact .inl ⟨k, by omega, h2, h3⟩
    · rw [near_no h, ih]
      constructor
      · rintro ⟨k, h1, h2, h3⟩; exact ⟨k, by omega, h2, h3⟩
      · rintro ⟨k, h1, h2, h3⟩
        have : k ≠ n := fun e => h (by subst e; exact h3)
        exact ⟨k, by omega, h2, h3⟩
theorem near_sorted {L : List (Int × Int)} {off : Int} : ∀ n : Nat, (nearL L off n).Pairwise (· < ·)
  | 0 => List.Pairwise.nil
  | n + 1 => by
    by_cases h : farL n L 0 ≤ off
    · rw [near_yes h, List.pairwise_append]
      refine ⟨near_sorted n, List.pairwise_singleton _ _, fun a ha b hb => ?_⟩
      rw [List.mem_singleton] at hb
      obtain ⟨k, h1, rfl, _⟩ := near_mem.1 ha
      subst hb
      omega
    · rw [near_no h]; exact near_sorted n
theorem near_len {L : List (Int × Int)} {off : Int} : ∀ n : Nat, (nearL L off n).length ≤ n
  | 0 => Nat.le_refl _
  | n + 1 => by
    have := near_len (L := L) (off := off) n
    by_cases h : farL n L 0 ≤ off
    · rw [near_yes h, List.length_append, List.length_singleton]; omega
    · rw [near_no h]; omega
theorem sorted_at {l : List Int} (h : l.Pairwise (· < ·)) {i j : Nat} {x y : Int} (hi : l[i]? = some x) (hj : l[j]? = some y) : (i < j → x < y) ∧ (x < y → i < j) := by
  obtain ⟨h1, e1⟩ := List.getElem?_eq_some_iff.1 hi
  obtain ⟨h2, e2⟩ := List.getElem?_eq_some_iff.1 hj
  have key := fun a b (ha : a < l.length) (hb : b < l.length) (hab : a < b) => List.pairwise_iff_getElem.1 h a b ha hb hab
  refine ⟨fun hij => by have := key i j h1 h2 hij; rw [e1, e2] at this; exact this, fun hxy => ?_⟩
  rcases Nat.lt_trichotomy i j with g | g | g
  · exact g
  · subst g; rw [e1] at e2; omega
  · have := key j i h2 h1 g; rw [e1, e2] at this; omega
theorem sorted_first {l : List Int} {y : Int} (h : l.Pairwise (· < ·)) (hy : y ∈ l) (hm : ∀ v ∈ l, y ≤ v) : l[0]? = some y := by
  rcases l with _ | ⟨a, l⟩
  · cases hy
  · have h1 := hm a (List.mem_cons_self ..)
    rcases List.mem_cons.1 hy with rfl | hy'
    · rfl
    · have := (List.pairwise_cons.1 h).1 y hy'
      omega
theorem bst_spec {L : List (Int × Int)} : ∀ n : Nat, ∃ y : Nat, (y < n ∨ y = 0) ∧ (bst L n).1 = y ∧ (bst L n).2 = farL y L 0 ∧ (∀ k : Nat, k < n → (bst L n).2 ≤ farL k L 0) ∧ (∀ k : Nat, k < y → (bst L n).2 < farL k L 0)
  | 0 => ⟨0, .inr rfl, rfl, rfl, fun k hk => absurd hk (Nat.not_lt_zero _), fun k hk => absurd hk (Nat.not_lt_zero _)⟩
  | n + 1 => by
    obtain ⟨y, h1, h2, h3, h4, h5⟩ := bst_spec (L := L) n
    by_cases h : farL n L 0 < (bst L n).2
    · rw [bst_yes h]
      refine ⟨n, .inl (by omega), rfl, rfl, fun k hk => ?_, fun k hk => ?_⟩
      · by_cases hkn : k = n
        · subst hkn; exact Int.le_refl _
        · have := h4 k (by omega); show farL n L 0 ≤ _; omega
      · have := h4 k hk; show farL n L 0 < _; omega
    · rw [bst_no h]
      refine ⟨y, by omega, h2, h3, fun k hk => ?_, h5⟩
      by_cases hkn : k = n
      · subst hkn; omega
      · exact h4 k (by omega)
theorem frD_near {x r m : Int} (hm : 1 ≤ m) : frD x r m ≤ x - r ∨ frD x r m ≤ r - x := by
  unfold frD
  have a := Int.emod_nonneg (x - r) (show m ≠ 0 by omega)
  have b := Int.emod_lt_of_pos (x - r) (show 0 < m by omega)
  have e := Int.emod_add_mul_ediv (x - r) m
  by_cases h : 0 ≤ x - r
  · left
    have q : 0 ≤ m * ((x - r) / m) := Int.mul_nonneg (by omega) (Int.ediv_nonneg h (by omega))
    omega
  · right
    have q1 : (x - r) / m ≤ -1 := by
      have := Int.ediv_lt_of_lt_mul (c := m) (a := x - r) (b := 0) (by omega) (by omega)
      omega
    have q : m * ((x - r) / m) ≤ m * (-1) := Int.mul_le_mul_of_nonneg_left q1 (by omega)
    omega
theorem farL_le {x off : Int} : ∀ (l : List (Int × Int)) (s : Int), s ≤ off → (∀ p ∈ l, 1 ≤ p.2 ∧ x - p.1 ≤ off ∧ p.1 - x ≤ off) → farL x l s ≤ off
  | [], s, hs, _ => hs
  | (r, m) :: l, s, hs, h => by
    obtain ⟨h1, h2, h3⟩ := h (r, m) (List.mem_cons_self ..)
    simp only at h1 h2 h3
    refine farL_le l _ ?_ (fun p hp => h p (List.mem_cons_of_mem _ hp))
    rcases frD_near (x := x) (r := r) h1 with k | k <;> omega
theorem readyE_small {R M : List Int} (h5 : M.length ≤ 5) (hm : ∀ x ∈ M, 1 ≤ x ∧ x ≤ 4096) : readyE R M = 0 := by
  unfold readyE
  rw [if_neg (by omega), badM_false (fun k p hp => ?_)]
  · rfl
  · have := hm p.2 (List.of_mem_zip (List.mem_of_getElem? hp)).2
    omega
theorem nearW_small {R M : List Int} {off : Int} (h5 : M.length ≤ 5) (hm : ∀ x ∈ M, 1 ≤ x ∧ x ≤ 4096) (h0 : 0 ≤ off) : nearW R M off 8192 = (nearL (R.zip M) off 8192, 0) := by
  unfold nearW
  have := near_len (L := R.zip M) (off := off) 8192
  rw [readyE_small h5 hm, if_neg (by simp), if_neg (by omega), if_neg (by omega), if_neg (by show ¬ 65536 < (nearL (R.zip M) off 8192).length; omega)]
  rfl
theorem bestW_small {R M : List Int} (h5 : M.length ≤ 5) (hm : ∀ x ∈ M, 1 ≤ x ∧ x ≤ 4096) : bestW R M 8192 = ((bst (R.zip M) 8192).1, (bst (R.zip M) 8192).2, 0) := by
  unfold bestW
  rw [readyE_small h5 hm, if_neg (by simp), if_neg (by omega), if_neg (by omega)]
  rfl
theorem far0 {R M : List Int} (x : Int) (hm : ∀ x ∈ M, 1 ≤ x ∧ x ≤ 4096) : 0 ≤ farL x (R.zip M) 0 ∧ farL x (R.zip M) 0 ≤ 1099511627776 :=
  farL_bounds x _ 0 (fun p hp => by have := hm p.2 (List.of_mem_zip hp).2; omega) (by omega) (by omega)
theorem has_walk (a : Option Addr) (n cap : Nat) (l : List Int) (x : Int) (w : World) (s : Sl w a n cap l) (hx : x ∈ l) : Calls Try.prog 25 #[.slice a n cap, .int .i64 x] w (fun e w' => e = .returned (.bool true) ∧ Below w.heap.size w w') := by
  have HX := Lib.hid hx
  have sm := s.small
  have S := Lib.hid s
  clear s hx
  go_enter Try.func25, Try.ntmps25
  go_wp2_with fail
  go_loopw [5] (fun i wr => ∃ k : Nat, k ≤ n ∧ i = .int .i64 k ∧ (∀ (j : Nat) (y : Int), j < k → l[j]? = some y → y ≠ x) ∧ Below w.heap.size w wr) (fun i _ => n - (intOf i).toNat)
  case atStart => exact ⟨0, Nat.zero_le _, rfl, fun j y hj => absurd hj (Nat.not_lt_zero _), Below.refl _ _⟩
  case round =>
    obtain ⟨k, hk, rfl, hn, hb⟩ := hrel
    have HN := Lib.hid hn
    have HB := Lib.hid hb
    clear hn hb
    by_cases hlt : k < n
    · have hk64 : (k : Int) < (n : Int) := by omega
      obtain ⟨b1, o1, y, rfl, hb1, e1, d1, r1, r2⟩ := (S.out.keep HB.out).at (k := k) hlt
      have E1 := Lib.hid e1
      clear e1
      by_cases hy : y = x
      · subst hy
        go_wp2_with fail
        go_ret
        exact ⟨rfl, HB.out⟩
      · have HY := Lib.hid hy
        go_wp2_with fail
        go_roundw
        case rel =>
          refine ⟨k + 1, by omega, by go_num, fun j y' hj h => ?_, HB.out⟩
          by_cases hjk : j = k
          · subst hjk; rw [E1.out] at h; cases h; exact HY.out
          · exact HN.out j y' (by omega) h
        case measure => simp [intOf]; omega
    · exfalso
      obtain ⟨j, hj⟩ := List.getElem?_of_mem HX.out
      have := (List.getElem?_eq_some_iff.1 hj).1
      have := S.out.len
      exact HN.out j x (by omega) hj rfl
end Go.Proofs.Ytepoionjcjgnjaa
