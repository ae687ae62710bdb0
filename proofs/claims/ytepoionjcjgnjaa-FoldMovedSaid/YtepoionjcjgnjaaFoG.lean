import Derived.Test.YtepoionjcjgnjaaFoldA
import Derived.Test.YtepoionjcjgnjaaFlG
import Derived.Test.YtepoionjcjgnjaaProg
import Derived.WalkKit
import Derived.WalkLawsBesides
import Derived.WalkSpells
import Derived.BigQuiet
import Derived.Lib.Hide
import Derived.Outline
import Derived.LoopTactic
import Derived.Deep.Heap
import Derived.Below
set_option autoImplicit false
set_option linter.unusedVariables false
namespace Go.Proofs.Ytepoionjcjgnjaa
open Go.RowKit Lk Fo
theorem tdiv_pos {a b : Int} (h : 0 ≤ a) : a.tdiv b = a / b := Int.tdiv_eq_ediv_of_nonneg h
/-- the rows' pair, so far -/
def Rws (a b : Int) (one two : Row) : Prop := 0 ≤ one.g ∧ one.g ≤ 9223372036854775807 ∧ 0 ≤ two.g ∧ two.g ≤ 9223372036854775807 ∧ eul (two.g.toNat + 1) one two = gcdR a b
theorem rws_start {a b : Int} (h1 : 0 ≤ a) (h2 : a ≤ 9223372036854775807) (h3 : 0 ≤ b) (h4 : b ≤ 9223372036854775807) : Rws a b ⟨a, 1, 0⟩ ⟨b, 0, 1⟩ := ⟨h1, h2, h3, h4, rfl⟩
theorem rws_end {a b : Int} {one two : Row} (h : Rws a b one two) (h0 : two.g = 0) : one = gcdR a b := by
  obtain ⟨_, _, _, _, h⟩ := h
  rw [h0] at h
  unfold eul at h
  rw [if_pos h0] at h
  exact h
theorem rws_step {a b : Int} {one two : Row} (h : Rws a b one two) (h0 : two.g ≠ 0) : Rws a b two (stp one two) ∧ (stp one two).g.toNat < two.g.toNat := by
  obtain ⟨h1, h2, h3, h4, h⟩ := h
  obtain ⟨e, r0, r1⟩ := stp_g (one := one) (two := two) h1 h2 (by omega)
  unfold eul at h
  rw [if_neg h0] at h
  refine ⟨⟨h3, h4, by rw [e]; exact r0, by rw [e]; omega, ?_⟩, by rw [e]; omega⟩
  rw [← h]
  exact (eul_more _ _ _ _ (by omega) (by rw [e]; omega) h3 h4 (by rw [e]; exact r0) (by rw [e]; omega)).symm
theorem quo_wrap {a b : Int} (h1 : 0 ≤ a) (h2 : a ≤ 9223372036854775807) (h3 : 0 ≤ b) : wrap64 (a / b) = a / b := by
  have q0 : 0 ≤ a / b := Int.ediv_nonneg h1 h3
  have q1 : a / b ≤ a := Int.ediv_le_self b h1
  exact wrap_self (by omega) (by omega)
theorem ret4 {a b c d a' b' c' : Int} (h1 : a = a') (h2 : b = b') (h3 : c = c') : Ending.returned (.tuple #[.int .i64 a, .int .i64 b, .int .i64 c, .int .i64 d]) = .returned (.tuple #[.int .i64 a', .int .i64 b', .int .i64 c', .int .i64 d]) := by rw [h1, h2, h3]
theorem rgcd_walk (a b : Int) (w : World) (h1 : 0 ≤ a) (h2 : a ≤ 9223372036854775807) (h3 : 0 ≤ b) (h4 : b ≤ 9223372036854775807) : Calls Try.prog 30 #[.int .i64 a, .int .i64 b] w
    (fun e w' => e = .returned (.tuple #[.int .i64 (gcdR a b).g, .int .i64 (gcdR a b).x, .int .i64 (gcdR a b).y, .int .i64 0]) ∧ w = w') := by
  have HS := Lib.hid (rws_start h1 h2 h3 h4)
  clear h1 h2 h3 h4
  go_enter Try.func30, Try.ntmps30
  go_wp2_with fail
  go_loopw [0, 1, 5, 6, 8, 9] (fun va vb vx vy vu vv wr => ∃ one two : Row, va = .int .i64 one.g ∧ vb = .int .i64 two.g ∧ vx = .int .i64 one.x ∧ vy = .int .i64 one.y ∧ vu = .int .i64 two.x ∧ vv = .int .i64 two.y ∧ Rws a b one two ∧ wr = w) (fun _ vb _ _ _ _ _ => (intOf vb).toNat)
  case atStart => exact ⟨⟨a, 1, 0⟩, ⟨b, 0, 1⟩, rfl, rfl, rfl, rfl, rfl, rfl, HS.out, rfl⟩
  case round =>
    obtain ⟨one, two, rfl, rfl, rfl, rfl, rfl, rfl, hr, rfl⟩ := hrel
    have hr0 := hr.1
    have R := Lib.hid hr
    clear hr
    by_cases h0 : two.g = 0
    · have E := Lib.hid (rws_end R.out h0)
      go_wp2_with fail
      refine bodyPost_ret (v := ?_) ?_ rfl ?_
      rotate_left
      · simp [results, Try.results30, go_sem]; rfl
      · exact ⟨ret4 (congrArg Row.g E.out) (congrArg Row.x E.out) (congrArg Row.y E.out), rfl⟩
    · have E := Lib.hid (rws_step R.out h0)
      have hd := tdiv_pos (b := two.g) hr0
      have hq := quo_wrap (b := two.g) hr0 R.out.2.1 R.out.2.2.1
      go_wp2_with fail
      go_roundw
      case rel => exact ⟨two, stp one two, rfl, rfl, rfl, rfl, rfl, rfl, E.out.1, trivial⟩
      case measure => exact E.out.2
end Go.Proofs.Ytepoionjcjgnjaa
