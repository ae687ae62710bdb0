import Derived.Test.YtepoionjcjgnjaaFoK
set_option autoImplicit false
set_option linter.unusedVariables false
namespace Go.Proofs.Ytepoionjcjgnjaa
open Go.RowKit Lk Fo
theorem count_walk (a1 a2 : Option Addr) (n1 n2 c1 c2 : Nat) (w : World) : Calls Try.prog 29 #[.slice a1 n1 c1, .slice a2 n2 c2] w (fun e w' => e = .returned (.int .i64 ((min n1 n2 : Nat) : Int)) ∧ w = w') := by
  have hif := lt_min (n1 := n1) (n2 := n2)
  obtain ⟨n, hn⟩ : ∃ n, n = min n1 n2 := ⟨_, rfl⟩
  rw [← hn] at hif ⊢
  clear hn
  go_enter Try.func29, Try.ntmps29
  go_wp2_with fail
  go_ret
  exact ⟨ret_int (by first | rfl | exact hif), rfl⟩
theorem rfar_walk (x r m : Int) (w : World) (x1 : -9223372036854775808 ≤ x) (x2 : x ≤ 9223372036854775807) (r1 : -9223372036854775808 ≤ r) (r2 : r ≤ 9223372036854775807) (m1 : 1 ≤ m) (m2 : m ≤ 1099511627776) : Calls Try.prog 35 #[.int .i64 x, .int .i64 r, .int .i64 m] w (fun e w' => e = .returned (.int .i64 (frD x r m)) ∧ w = w') := by
  have x0 := Int.emod_nonneg x (show m ≠ 0 by omega)
  have x3 := Int.emod_lt_of_pos x (show 0 < m by omega)
  have r0 := Int.emod_nonneg r (show m ≠ 0 by omega)
  have r3 := Int.emod_lt_of_pos r (show 0 < m by omega)
  have d0 := Int.emod_nonneg (x - r) (show m ≠ 0 by omega)
  have d1 := Int.emod_lt_of_pos (x - r) (show 0 < m by omega)
  have w1 : wrap64 (x % m - r % m) = x % m - r % m := wrap_self (by omega) (by omega)
  have w2 : wrap64 (m - (x - r) % m) = m - (x - r) % m := wrap_self (by omega) (by omega)
  have E : Hid (frD x r m = min ((x - r) % m) (m - (x - r) % m)) := rfl
  go_enter Try.func35, Try.ntmps35
  go_wp2_with fail
  refine (rmod_walk x m _ x1 x2 m1 (by omega)).mono ?_; rintro e w1 ⟨rfl, rfl⟩
  go_wp2_with fail
  refine (rmod_walk r m _ r1 r2 m1 (by omega)).mono ?_; rintro e w1 ⟨rfl, rfl⟩
  go_wp2_with fail
  refine (rmod_walk (x % m - r % m) m _ (by omega) (by omega) m1 (by omega)).mono ?_; rintro e w1 ⟨rfl, rfl⟩
  rw [← Int.sub_emod]
  generalize (x - r) % m = d at *
  go_wp2_with fail
  all_goals
    go_ret
    exact ⟨ret_int (by rw [E.out]; omega), rfl⟩
theorem bad_walk (a1 a2 : Option Addr) (n1 n2 c1 c2 : Nat) (R M : List Int) (w : World) (s1 : Sl w a1 n1 c1 R) (s2 : Sl w a2 n2 c2 M) :
    Calls Try.prog 34 #[.slice a1 n1 c1, .slice a2 n2 c2] w (fun e w' => e = .returned (.int .i64 (readyE R M)) ∧ Below w.heap.size w w') := by
  have l1 := s1.len
  have l2 := s2.len
  have S2 := Lib.hid s2
  have S1 := Lib.hid s1
  have L := Lib.hid (And.intro l1 l2)
  clear s1 s2 l1 l2
  go_enter Try.func34, Try.ntmps34
  go_wp2_with fail
  refine (count_walk a1 a2 n1 n2 c1 c2 _).mono ?_; rintro e w1 ⟨rfl, rfl⟩
  obtain ⟨n, hn⟩ : ∃ n, n = min n1 n2 := ⟨_, rfl⟩
  rw [← hn]
  have HN := Lib.hid hn
  clear hn
  by_cases h8 : 8 < n
  · have h8' : (8 : Int) < (n : Int) := by omega
    have J : Hid (readyE R M = 3) := Lib.hid (by unfold readyE; rw [L.out.1, L.out.2, ← HN.out, if_pos h8])
    go_wp2_with fail
    go_ret
    exact ⟨ret_int J.out.symm, Below.refl _ _⟩
  · have h8' : ¬ (8 : Int) < (n : Int) := by omega
    have J : Hid (readyE R M = if badM (R.zip M) then 2 else 0) := Lib.hid (by unfold readyE; rw [L.out.1, L.out.2, ← HN.out, if_neg h8])
    go_wp2_with fail
    go_loopw [6] (fun i wr => ∃ k : Nat, k ≤ n ∧ i = .int .i64 k ∧ (∀ (j : Nat) (p : Int × Int), j < k → (R.zip M)[j]? = some p → ¬ (p.2 < 1 ∨ 1099511627776 < p.2)) ∧ Below w.heap.size w wr) (fun i _ => n - (intOf i).toNat)
    case atStart => exact ⟨0, Nat.zero_le _, rfl, fun j p hj => absurd hj (Nat.not_lt_zero _), Below.refl _ _⟩
    case round =>
      obtain ⟨k, hk, rfl, hg, hb⟩ := hrel
      have HG := Lib.hid hg
      have HB := Lib.hid hb
      clear hg hb
      by_cases hlt : k < n
      · have hk64 : (k : Int) < (n : Int) := by omega
        have q2 : (k : Int) < (n2 : Int) := by have := HN.out; omega
        obtain ⟨b1, o1, r, hs1, hb1, e1, d1, r1, r2⟩ := S1.out.at (k := k) (by have := HN.out; omega)
        obtain ⟨b2, o2, m, rfl, hb2, e2, d2, m1, m2⟩ := (S2.out.keep HB.out).at (k := k) (by omega)
        have Z := Lib.hid (zip_at e1 e2)
        clear e1 e2 d1 hs1
        by_cases g1 : m < 1
        · have JB : Hid (readyE R M = 2) := Lib.hid (by rw [J.out, badM_drop Z.out (.inl g1)]; rfl)
          go_wp2_with fail
          go_ret
          exact ⟨ret_int JB.out.symm, HB.out⟩
        · by_cases g2 : 1099511627776 < m
          · have JB : Hid (readyE R M = 2) := Lib.hid (by rw [J.out, badM_drop Z.out (.inr g2)]; rfl)
            go_wp2_with fail
            go_ret
            exact ⟨ret_int JB.out.symm, HB.out⟩
          · go_wp2_with fail
            go_roundw
            case rel =>
              refine ⟨k + 1, by omega, by go_num, fun j p hj hp => ?_, HB.out⟩
              by_cases hjk : j = k
              · rw [hjk, Z.out] at hp; cases hp; show ¬ (m < 1 ∨ 1099511627776 < m); omega
              · exact HG.out j p (by omega) hp
            case measure => simp [intOf]; omega
      · obtain rfl : k = n := by omega
        have hlen : (R.zip M).length = k := by rw [List.length_zip, L.out.1, L.out.2, ← HN.out]
        have JB : Hid (readyE R M = 0) := Lib.hid (by rw [J.out, badM_false (fun j p hp => HG.out j p (by have := (List.getElem?_eq_some_iff.1 hp).1; omega) hp)]; rfl)
        clear hlen
        go_wp2_with fail
        go_ret
        exact ⟨ret_int JB.out.symm, HB.out⟩
theorem same_walk (a1 a2 : Option Addr) (n1 n2 c1 c2 : Nat) (R M : List Int) (w : World) (s1 : Sl w a1 n1 c1 R) (s2 : Sl w a2 n2 c2 M) (h : R = M) :
    Calls Try.prog 20 #[.slice a1 n1 c1, .slice a2 n2 c2] w (fun e w' => e = .returned (.bool true) ∧ Below w.heap.size w w') := by
  have sm := s1.small
  have l1 := s1.len
  have l2 := s2.len
  subst h
  obtain rfl : n1 = n2 := by omega
  have S1 := Lib.hid s1
  have S2 := Lib.hid s2
  clear s1 s2 l1 l2
  go_enter Try.func20, Try.ntmps20
  go_wp2_with fail
  go_loopw [5] (fun i wr => ∃ k : Nat, k ≤ n1 ∧ i = .int .i64 k ∧ Below w.heap.size w wr) (fun i _ => n1 - (intOf i).toNat)
  case atStart => exact ⟨0, Nat.zero_le _, rfl, Below.refl _ _⟩
  case round =>
    obtain ⟨k, hk, rfl, hb⟩ := hrel
    have HB := Lib.hid hb
    have zz := hb.size
    clear hb
    by_cases hlt : k < n1
    · have hk64 : (k : Int) < (n1 : Int) := by omega
      obtain ⟨b1, o1, r, rfl, hb1, e1, d1, r1, r2⟩ := (S1.out.keep HB.out).at (k := k) hlt
      obtain ⟨b2, o2, m, rfl, hb2, e2, d2, m1, m2⟩ := (S2.out.keep HB.out).at (k := k) hlt
      obtain rfl : r = m := by rw [e1] at e2; exact Option.some.inj e2
      clear e1 e2
      go_wp2_with fail
      refine wp_region_G TN (by kernel_rfl) (by kernel_rfl) ?_
      repeat' (refine wpG_step' (fun K hA hK => ?_); go_simp; first | (refine bothG_value hA (v := ?_) (fun w' hw' => ?_) ?_; rotate_left; (· go_simp; rfl); (refine hK _ _ ?_; clear hK hA K)))
      refine wpG_nil ?_
      intro w7 hb7 hF
      have HB7 := Lib.hid (HB.out.trans (hb7.mono zz))
      clear hF hb7 d1 d2
      go_wp2_with fail
      go_roundw
      case rel => exact ⟨k + 1, by omega, by go_num, HB7.out⟩
      case measure => simp [intOf]; omega
    · obtain rfl : k = n1 := by omega
      go_wp2_with fail
      go_ret
      exact ⟨rfl, HB.out⟩
end Go.Proofs.Ytepoionjcjgnjaa
