import Derived.Test.YtepoionjcjgnjaaFoM
set_option autoImplicit false
set_option linter.unusedVariables false
namespace Go.Proofs.Ytepoionjcjgnjaa
open Go.RowKit Lk Fo
theorem rgcdL_walk (a b : Int) (w : World) : Calls Try.prog 11 #[.int .i64 a, .int .i64 b] w
    (fun e w' => e = .returned (if a < 0 ∨ b < 0 ∨ 1099511627776 < a ∨ 1099511627776 < b then .tuple #[.int .i64 0, .int .i64 0, .int .i64 0, .int .i64 2] else .tuple #[.int .i64 (gcdR a b).g, .int .i64 (gcdR a b).x, .int .i64 (gcdR a b).y, .int .i64 0]) ∧ w = w') := by
  by_cases hbad : a < 0 ∨ b < 0 ∨ 1099511627776 < a ∨ 1099511627776 < b
  · rw [if_pos hbad]
    have hb' := Lib.hid hbad
    clear hbad
    by_cases c1 : a < 0 <;> by_cases c2 : b < 0 <;> by_cases c3 : 1099511627776 < a <;> by_cases c4 : 1099511627776 < b
    all_goals first
      | (exfalso; have := hb'.out; omega)
      | (go_enter Try.func11, Try.ntmps11
         go_wp2_with fail
         refine bodyPost_ret (v := ?_) ?_ rfl ?_
         rotate_left
         · simp [results, Try.results11, go_sem]; rfl
         · exact ⟨rfl, rfl⟩)
  · rw [if_neg hbad]
    have c1 : ¬ a < 0 := by omega
    have c2 : ¬ b < 0 := by omega
    have c3 : ¬ 1099511627776 < a := by omega
    have c4 : ¬ 1099511627776 < b := by omega
    have HS := Lib.hid (rws_start (a := a) (b := b) (by omega) (by omega) (by omega) (by omega))
    clear hbad
    go_enter Try.func11, Try.ntmps11
    go_wp2_with fail
    go_loopw [0, 1, 5, 6, 8, 9] (fun va vb vx vy vu vv wr => ∃ one two : Row, va = .int .i64 one.g ∧ vb = .int .i64 two.g ∧ vx = .int .i64 one.x ∧ vy = .int .i64 one.y ∧ vu = .int .i64 two.x ∧ vv = .int .i64 two.y ∧ Rws a b one two ∧ wr = w) (fun _ vb _ _ _ _ _ => (intOf vb).toNat)
    case atStart => exact ⟨⟨a, 1, 0⟩, ⟨b, 0, 1⟩, rfl, rfl, rfl, rfl, rfl, rfl, HS.out, rfl⟩
    case round =>
      obtain ⟨one, two, rfl, rfl, rfl, rfl, rfl, rfl, hr, rfl⟩ := hrel
      have hr0 := hr.1
      have R := Lib.hid hr
      clear hr
      by_cases h0 : two.g = 0
      · have E := Lib.hid (rws_end R.out h0)
        go_wp2_with fail
        refine bodyPost_ret (v := ?_) ?_ rfl ?_
        rotate_left
        · simp [results, Try.results11, go_sem]; rfl
        · exact ⟨ret4 (congrArg Row.g E.out) (congrArg Row.x E.out) (congrArg Row.y E.out), rfl⟩
      · have E := Lib.hid (rws_step R.out h0)
        have hd := tdiv_pos (b := two.g) hr0
        have hq := quo_wrap (b := two.g) hr0 R.out.2.1 R.out.2.2.1
        go_wp2_with fail
        go_roundw
        case rel => exact ⟨two, stp one two, rfl, rfl, rfl, rfl, rfl, rfl, E.out.1, trivial⟩
        case measure => exact E.out.2
theorem dbl_stop : ∀ (k : Nat) (s a b m : Int), b ≤ 0 → dbl k s a b m = s
  | 0, _, _, _, _, _ => rfl
  | k + 1, s, a, b, m, h => by unfold dbl; rw [if_neg (by omega)]
theorem dbl_step (k : Nat) (s a b m : Int) (h : 0 < b) : dbl (k + 1) s a b m = dbl k (if b % 2 = 1 then pls s a m else s) (pls a a m) (b / 2) m := by
  rw [dbl]; rw [if_pos h]
/-- the document's product modulo m -/
theorem rtimes_walk (a b m : Int) (w : World) (a1 : -9223372036854775808 ≤ a) (a2 : a ≤ 9223372036854775807) (b1 : -9223372036854775808 ≤ b) (b2 : b ≤ 9223372036854775807) (m1 : 1 ≤ m) (m2 : m ≤ 4611686018427387904) :
    Calls Try.prog 32 #[.int .i64 a, .int .i64 b, .int .i64 m] w (fun e w' => e = .returned (.int .i64 (a * b % m)) ∧ w = w') := by
  have HA : Hid (0 ≤ a % m ∧ a % m < m) := Lib.hid ⟨Int.emod_nonneg a (by omega), Int.emod_lt_of_pos a (by omega)⟩
  have HB : Hid (0 ≤ b % m ∧ b % m < m) := Lib.hid ⟨Int.emod_nonneg b (by omega), Int.emod_lt_of_pos b (by omega)⟩
  have HE : Hid (a * b % m = dbl 63 0 (a % m) (b % m) m) := Lib.hid (by
    rw [dbl_eq 63 0 (a % m) (b % m) m (by omega) (by omega) HA.out.1 HA.out.2 HB.out.1 (by have := HB.out.2; omega), Int.zero_add, ← Int.mul_emod])
  go_enter Try.func32, Try.ntmps32
  go_wp2_with fail
  refine (rmod_walk a m _ a1 a2 m1 (by omega)).mono ?_; rintro e w1 ⟨rfl, rfl⟩
  go_wp2_with fail
  refine (rmod_walk b m _ b1 b2 m1 (by omega)).mono ?_; rintro e w1 ⟨rfl, rfl⟩
  go_wp2_with fail
  go_loopw [0, 1, 7] (fun va vb vs wr => ∃ (k : Nat) (x y s : Int), va = .int .i64 x ∧ vb = .int .i64 y ∧ vs = .int .i64 s ∧ (0 ≤ x ∧ x < m) ∧ (0 ≤ y ∧ y < 2 ^ k ∧ k ≤ 63) ∧ (0 ≤ s ∧ s < m) ∧ dbl k s x y m = a * b % m ∧ wr = w) (fun _ vb _ _ => (intOf vb).toNat)
  case atStart => exact ⟨63, a % m, b % m, 0, rfl, rfl, rfl, HA.out, ⟨HB.out.1, by have := HB.out.2; omega, by omega⟩, by omega, HE.out.symm, rfl⟩
  case round =>
    obtain ⟨k, x, y, s, rfl, rfl, rfl, ⟨x0, x1⟩, ⟨y0, y1, hk⟩, ⟨s0, s1⟩, hd, rfl⟩ := hrel
    have D := Lib.hid hd
    have hy63 : y ≤ 9223372036854775807 := by
      have : (2 : Int) ^ k ≤ 2 ^ 63 := by
        have := Nat.pow_le_pow_right (n := 2) (by omega) hk
        exact_mod_cast this
      omega
    have Y1 := Lib.hid y1
    clear hd HA HB HE y1
    by_cases hy : 0 < y
    · obtain ⟨j, rfl⟩ : ∃ j, k = j + 1 := ⟨k - 1, by
        rcases k with _ | k
        · have := Y1.out; omega
        · omega⟩
      have Y2 : Hid (y / 2 < 2 ^ j) := Lib.hid (by have := Y1.out; rw [Int.pow_succ] at this; omega)
      have E := Lib.hid (dbl_step j s x y m hy)
      obtain ⟨p1, p2, p3⟩ := pls_eq (a := x) (b := x) x0 x1 x0 x1
      obtain ⟨q1, q2, q3⟩ := pls_eq (a := s) (b := x) s0 s1 x0 x1
      have ht := Int.tmod_eq_emod_of_nonneg (a := y) (b := 2) (by omega)
      have hq := Int.tdiv_eq_ediv_of_nonneg (a := y) (b := 2) (by omega)
      have hw := wrap_self (z := y / 2) (by omega) (by omega)
      clear p1 q1
      by_cases hp : y % 2 = 1
      · have F := E.out
        rw [if_pos hp] at F
        have F := Lib.hid F
        clear E
        go_wp2_with fail
        refine (plus_walk s x m _ s0 s1 x0 x1 m2).mono ?_; rintro e w1 ⟨rfl, rfl⟩
        go_wp2_with fail
        refine (plus_walk x x m _ x0 x1 x0 x1 m2).mono ?_; rintro e w1 ⟨rfl, rfl⟩
        go_wp2_with fail
        go_roundw
        case rel => exact ⟨j, pls x x m, y / 2, pls s x m, rfl, rfl, rfl, ⟨p2, p3⟩, ⟨by omega, Y2.out, by omega⟩, ⟨q2, q3⟩, F.out.symm.trans D.out, trivial⟩
        case measure => simp [intOf]; omega
      · have F := E.out
        rw [if_neg hp] at F
        have F := Lib.hid F
        clear E
        go_wp2_with fail
        refine (plus_walk x x m _ x0 x1 x0 x1 m2).mono ?_; rintro e w1 ⟨rfl, rfl⟩
        go_wp2_with fail
        go_roundw
        case rel => exact ⟨j, pls x x m, y / 2, s, rfl, rfl, rfl, ⟨p2, p3⟩, ⟨by omega, Y2.out, by omega⟩, ⟨s0, s1⟩, F.out.symm.trans D.out, trivial⟩
        case measure => simp [intOf]; omega
    · have E := Lib.hid (dbl_stop k s x y m (by omega))
      go_wp2_with fail
      go_ret
      exact ⟨ret_int (by rw [← D.out, E.out]), rfl⟩
end Go.Proofs.Ytepoionjcjgnjaa
