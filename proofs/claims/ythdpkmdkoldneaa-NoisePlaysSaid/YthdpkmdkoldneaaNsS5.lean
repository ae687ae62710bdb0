import Derived.Test.YthdpkmdkoldneaaNsS4
set_option autoImplicit false
set_option linter.unusedVariables false
namespace Go.Proofs.Ythdpkmdkoldneaa
open Go.RowKit Lk
set_option maxHeartbeats 8000000 in
theorem step_row_bad (b c s : Nat) (n : Int) (p wd : Nat) (w : World) (hn : n < 0 ∨ 16384 < n) (hbc : b ≠ c) (hB : Bth w b c s) : Calls Try.prog 14 #[.pointer (some ⟨b, 0, none⟩), .pointer (some ⟨c, 0, none⟩), opv 4 n p wd] w (RST b c w) := by
  have hs := hB.lt
  have I := Lib.hid (Iv.begin (k := 4) (n := n) (p := p) (wd := wd) hbc hB)
  clear hB
  go_enter Try.func14, Try.ntmps14
  go_wp2_with fail
  refine (row_bad s b wd n _ hn I.out.n).mono ?_; rintro e w1 ⟨rfl, rfl⟩
  go_wp2_with fail
  generalize hW : w.alloc (Obj.cells #[.int .i64 4, .int .i64 n, .int .u64 p, .float .f64 wd] 35) = W at *
  clear hW
  have I := Lib.hid I.out.drew1
  have cw : W.drew.cell? ⟨w.heap.size, 3, none⟩ = some (.float .f64 wd) := I.out.cell 3
  have cn : W.drew.cell? ⟨w.heap.size, 1, none⟩ = some (.int .i64 n) := I.out.cell 1
  go_region_with (first | (go_at_call 31; refine (of_nil _).mono ?_; rintro e w2 ⟨rfl, rfl⟩) | (go_at_call 32; refine (rrow_bad s c wd n _ hn (show BlR _ c s from I.out.r)).mono ?_; rintro e w3 ⟨rfl, rfl⟩) | (go_at_call 30; refine (samelist_walk _ _ 0 (fun _ => (0, 0)) (fun _ => (0, 0)) _ (by decide) (.inl ⟨rfl, rfl⟩) (.inl ⟨rfl, rfl⟩) (fun j hj => absurd hj (Nat.not_lt_zero _))).mono ?_; rintro e w4 ⟨rfl, b4⟩; have I := Lib.hid (Iv.afterB b4 I.out); clear b4))
  all_goals
    go_wp2_with fail
    go_loopw [64] (fun i wr => i = .int .i64 0 ∧ Iv w b c 4 n p wd wr s s) (fun _ _ => 0)
    case atStart => exact ⟨rfl, I.out⟩
    case round =>
      obtain ⟨rfl, hI⟩ := hrel
      clear cw cn
      go_wp2_with fail
      go_ret
      exact ⟨rfl, s, ⟨hI.n, hI.r, hs⟩, hI.two⟩
/-- EVERY STEP of two sources that stand alike -/
theorem step_walk (b c s : Nat) (k n : Int) (p wd : Nat) (w : World) (hbc : b ≠ c) (hB : Bth w b c s) : Calls Try.prog 14 #[.pointer (some ⟨b, 0, none⟩), .pointer (some ⟨c, 0, none⟩), opv k n p wd] w (RST b c w) := by
  by_cases h0 : k = 0
  · subst h0; exact step_next b c s n p wd w hbc hB
  by_cases h1 : k = 1
  · subst h1; exact step_float b c s n p wd w hbc hB
  by_cases h2 : k = 2
  · subst h2; exact step_bell b c s n p wd w hbc hB
  by_cases h3 : k = 3
  · subst h3; exact step_pair b c s n p wd w hbc hB
  by_cases h4 : k = 4
  · subst h4
    by_cases hn : n < 0 ∨ 16384 < n
    · exact step_row_bad b c s n p wd w hn hbc hB
    · obtain ⟨N, rfl⟩ := Int.eq_ofNat_of_zero_le (show 0 ≤ n by omega)
      exact step_row b c s N p wd w (by omega) hbc hB
  by_cases h5 : k = 5
  · subst h5; exact step_skip b c s n p wd w hbc hB
  exact step_state b c s k n p wd w hbc (by omega) hB
end Go.Proofs.Ythdpkmdkoldneaa
