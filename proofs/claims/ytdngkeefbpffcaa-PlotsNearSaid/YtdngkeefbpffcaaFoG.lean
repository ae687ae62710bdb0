import Derived.Test.YtdngkeefbpffcaaFoldA
import Derived.Test.YtdngkeefbpffcaaFlG
import Derived.Test.YtdngkeefbpffcaaProg
import Derived.WalkKit
import Derived.WalkLawsBesides
import Derived.WalkSpells
import Derived.BigQuiet
import Derived.Lib.Hide
import Derived.Outline
import Derived.LoopTactic
import Derived.Deep.Heap
import Derived.Below
set_option autoImplicit false
set_option linter.unusedVariables false
namespace Go.Proofs.Ytdngkeefbpffcaa
open Go.RowKit Lk Fo
theorem tdiv_pos {a b : Int} (h : 0 ≤ a) : a.tdiv b = a / b := Int.tdiv_eq_ediv_of_nonneg h
/-- the rows' pair, so far -/
def Rws (a b : Int) (one two : Row) : Prop := 0 ≤ one.g ∧ one.g ≤ 9223372036854775807 ∧ 0 ≤ two.g ∧ two.g ≤ 9223372036854775807 ∧ eul (two.g.toNat + 1) one two = gcdR a b
theorem rws_start {a b : Int} (h1 : 0 ≤ a) (h2 : a ≤ 9223372036854775807) (h3 : 0 ≤ b) (h4 : b ≤ 9223372036854775807) : Rws a b ⟨a, 1, 0⟩ ⟨b, 0, 1⟩ := ⟨h1, h2, h3, h4, rfl⟩
theorem rws_end {a b : Int} {one two : Row} (h : Rws a b one two) (h0 : two.g = 0) : one = gcdR a b := by
  obtain ⟨_, _, _, _, h⟩ := h
  rw [h0] at h
  unfold eul at h
  rw [if_pos h0] at h
  exact h
theorem rws_step {a b : Int} {one two : Row} (h : Rws a b one two) (h0 : two.g ≠ 0) : Rws a b two (stp one two) ∧ (stp one two).g.toNat < two.g.toNat := by
  obtain ⟨h1, h2, h3, h4, h⟩ := h
  obtain ⟨e, r0, r1⟩ := stp_g (one := one) (two := two) h1 h2 (by omega)
  unfold eul at h
  rw [if_neg h0] at h
  refine ⟨⟨h3, h4, by rw [e]; exact r0, by rw [e]; omega, ?_⟩, by rw [e]; omega⟩
  rw [← h]
  exact (eul_more _ _ _ _ (by omega) (by rw [e]; omega) h3 h4 (by rw [e]; exact r0) (by rw [e]; omega)).symm
theorem quo_wrap {a b : Int} (h1 : 0 ≤ a) (h2 : a ≤ 9223372036854775807) (h3 : 0 ≤ b) : wrap64 (a / b) = a / b := by
  have q0 : 0 ≤ a / b := Int.ediv_nonneg h1 h3
  have q1 : a / b ≤ a := Int.ediv_le_self b h1
  exact wrap_self (by omega) (by omega)
theorem ret4 {a b c d a' b' c' : Int} (h1 : a = a') (h2 : b = b') (h3 : c = c') : Ending.returned (.tuple #[.int .i64 a, .int .i64 b, .int .i64 c, .int .i64 d]) = .returned (.tuple #[.int .i64 a', .int .i64 b', .int .i64 c', .int .i64 d]) := by rw [h1, h2, h3]
end Go.Proofs.Ytdngkeefbpffcaa
