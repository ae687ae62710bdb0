import Derived.Test.YtdngkeefbpffcaaFoG
set_option autoImplicit false
set_option linter.unusedVariables false
namespace Go.Proofs.Ytdngkeefbpffcaa
open Go.RowKit Lk Fo
theorem tm {x m : Int} (hm : 1 ≤ m) : (¬ x.tmod m < 0 → x.tmod m = x % m) ∧ (x.tmod m < 0 → x.tmod m + m = x % m) ∧ -m < x.tmod m ∧ x.tmod m < m := by
  have h := Int.tmod_eq_emod (a := x) (b := m)
  have a := Int.emod_nonneg x (show m ≠ 0 by omega)
  have b := Int.emod_lt_of_pos x (show 0 < m by omega)
  have e : (m.natAbs : Int) = m := Int.natAbs_of_nonneg (by omega)
  split at h
  · omega
  · rename_i hn
    have c : x % m ≠ 0 := fun h0 => hn (.inr (Int.dvd_of_emod_eq_zero h0))
    omega
theorem ret_int {a b : Int} (h : a = b) : Ending.returned (.int .i64 a) = .returned (.int .i64 b) := by rw [h]
theorem fmod_walk (x m : Int) (w : World) (x1 : -9223372036854775808 ≤ x) (x2 : x ≤ 9223372036854775807) (m1 : 1 ≤ m) (m2 : m ≤ 9223372036854775807) : Calls Try.prog 72 #[.int .i64 x, .int .i64 m] w (fun e w' => e = .returned (.int .i64 (x % m)) ∧ w = w') := by
  obtain ⟨t1, t2, t3, t4⟩ := tm (x := x) m1
  have T1 := Lib.hid t1
  have T2 := Lib.hid t2
  clear t1 t2
  have hw := wrap_self (z := x.tmod m) (by omega) (by omega)
  by_cases h : x.tmod m < 0
  · have hw2 := wrap_self (z := x.tmod m + m) (by omega) (by omega)
    go_enter Try.func72, Try.ntmps72
    go_wp2_with fail
    go_ret
    exact ⟨ret_int (T2.out h), rfl⟩
  · go_enter Try.func72, Try.ntmps72
    go_wp2_with fail
    go_ret
    exact ⟨ret_int (T1.out h), rfl⟩
end Go.Proofs.Ytdngkeefbpffcaa
