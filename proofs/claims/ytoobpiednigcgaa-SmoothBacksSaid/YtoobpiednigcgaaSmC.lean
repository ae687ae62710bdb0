import Derived.Test.YtoobpiednigcgaaSmN
set_option autoImplicit false
set_option linter.unusedVariables false
namespace Go.Proofs.Ytoobpiednigcgaa
open Go.RowKit Lk
def TSame : FuncId → Array Value → Value → Prop := fun _ args u => ∃ x y, args = #[.float .f64 x, .float .f64 y] ∧ u = .bool (sameF x y)
set_option maxHeartbeats 1000000 in
/-- two lists of floats, alike -/
theorem samefloats_walk (a b : Option Addr) (n c d : Nat) (l : List Nat) (w : World) (h : Fs w a n c l) (h' : Fs w b n d l) :
    Calls Try.prog 37 #[.slice a n c, .slice b n d] w (fun e w' => e = .returned (.bool true) ∧ Below w.heap.size w w') := by
  have HA := Lib.hid h
  have HB := Lib.hid h'
  have hn : n ≤ 9223372036854775807 := Nat.le_trans h.le h.small
  clear h h'
  go_enter Try.func37, Try.ntmps37
  go_wp2_with fail
  go_loopw [5] (fun i wr => ∃ k : Nat, k ≤ n ∧ i = .int .i64 k ∧ Below w.heap.size w wr) (fun i _ => n - (intOf i).toNat)
  case atStart => exact ⟨0, by omega, rfl, Below.refl _ _⟩
  case round =>
    obtain ⟨k, hk, rfl, hb⟩ := hrel
    have H := Lib.hid hb
    clear hb
    by_cases hlt : k < n
    · obtain ⟨b1, o1, x, rfl, hb1, hx, hc1, hx1⟩ := (HA.out.keep H.out).at hlt
      obtain ⟨b2, o2, y, rfl, hb2, hy, hc2, hy1⟩ := (HB.out.keep H.out).at hlt
      obtain rfl : x = y := by rw [hx] at hy; exact Option.some.inj hy
      have k1 : (k : Int) < n := by omega
      have SX : Hid (sameF x x = true) := Lib.hid (sameF_is (Is.refl _))
      clear hx hy
      go_wp2_with fail
      refine wp_region_drew TSame (by kernel_rfl) (by kernel_rfl) ?_
      repeat' (refine wpSet_step (fun K hK => ?_); go_simp; first | (refine drew_call (f := 17) (args := ?_) (fun n => ?_) (fun n => ?_) ?_; rotate_left; (· go_simp; rfl); (· exact (samefloat_walk _ _ _).mono (by rintro e w' ⟨rfl, rfl⟩; exact ⟨_, rfl, ⟨_, _, rfl, rfl⟩, n, rfl⟩)); (rintro u ⟨x', y', hx', rfl⟩; cases hx'; refine hK _ ?_; clear hK K; rw [SX.out])) | (refine drew_value (v := ?_) (fun n => ?_) ?_; rotate_left; (· go_simp; rfl); (refine hK _ ?_; clear hK K)))
      refine wpSet_nil ?_
      intro n1
      go_wp2_with fail
      go_roundw
      case rel => exact ⟨k + 1, by omega, by go_num, below_drewN H.out _⟩
      case measure => simp [intOf]; omega
    · obtain rfl : k = n := by omega
      go_wp2_with fail
      go_ret
      exact ⟨rfl, H.out⟩
end Go.Proofs.Ytoobpiednigcgaa
