import Derived.Test.YtdngkeefbpffcaaFoldA
import Derived.Test.YtdngkeefbpffcaaFlG
import Derived.Test.YtdngkeefbpffcaaProg
import Derived.WalkKit
import Derived.WalkLawsBesides
import Derived.WalkSpells
import Derived.BigQuiet
import Derived.Lib.Hide
import Derived.Outline
import Derived.LoopTactic
import Derived.Deep.Heap
import Derived.Below
set_option autoImplicit false
set_option linter.unusedVariables false
namespace Go.Proofs.Ytdngkeefbpffcaa
open Go.RowKit Lk Fo
theorem tdiv_pos {a b : Int} (h : 0 ≤ a) : a.tdiv b = a / b := Int.tdiv_eq_ediv_of_nonneg h
/-- the rows' pair, so far -/
def Rws (a b : Int) (one two : Row) : Prop := 0 ≤ one.g ∧ one.g ≤ 9223372036854775807 ∧ 0 ≤ two.g ∧ two.g ≤ 9223372036854775807 ∧ eul (two.g.toNat + 1) one two = gcdR a b
theorem rws_start {a b : Int} (h1 : 0 ≤ a) (h2 : a ≤ 9223372036854775807) (h3 : 0 ≤ b) (h4 : b ≤ 9223372036854775807) : Rws a b ⟨a, 1, 0⟩ ⟨b, 0, 1⟩ := ⟨h1, h2, h3, h4, rfl⟩
theorem rws_end {a b : Int} {one two : Row} (h : Rws a b one two) (h0 : two.g = 0) : one = gcdR a b := by
  obtain ⟨_, _, _, _, h⟩ := h
  rw [h0] at h
  unfold eul at h
  rw [if_pos h0] at h
  exact h
theorem rws_step {a b : Int} {one two : Row} (h : Rws a b one two) (h0 : two.g ≠ 0) : Rws a b two (stp one two) ∧ (stp one two).g.toNat < two.g.toNat := by
  obtain ⟨h1, h2, h3, h4, h⟩ := h
  obtain ⟨e, r0, r1⟩ := stp_g (one := one) (two := two) h1 h2 (by omega)
  unfold eul at h
  rw [if_neg h0] at h
  refine ⟨⟨h3, h4, by rw [e]; exact r0, by rw [e]; omega, ?_⟩, by rw [e]; omega⟩
  rw [← h]
  exact (eul_more _ _ _ _ (by omega) (by rw [e]; omega) h3 h4 (by rw [e]; exact r0) (by rw [e]; omega)).symm
theorem quo_wrap {a b : Int} (h1 : 0 ≤ a) (h2 : a ≤ 9223372036854775807) (h3 : 0 ≤ b) : wrap64 (a / b) = a / b := by
  have q0 : 0 ≤ a / b := Int.ediv_nonneg h1 h3
  have q1 : a / b ≤ a := Int.ediv_le_self b h1
  exact wrap_self (by omega) (by omega)
theorem ret4 {a b c d a' b' c' : Int} (h1 : a = a') (h2 : b = b') (h3 : c = c') : Ending.returned (.tuple #[.int .i64 a, .int .i64 b, .int .i64 c, .int .i64 d]) = .returned (.tuple #[.int .i64 a', .int .i64 b', .int .i64 c', .int .i64 d]) := by rw [h1, h2, h3]
end Go.Proofs.Ytdngkeefbpffcaa

set_option autoImplicit false
set_option linter.unusedVariables false
namespace Go.Proofs.Ytdngkeefbpffcaa
open Go.RowKit Lk Fo
theorem tm {x m : Int} (hm : 1 ≤ m) : (¬ x.tmod m < 0 → x.tmod m = x % m) ∧ (x.tmod m < 0 → x.tmod m + m = x % m) ∧ -m < x.tmod m ∧ x.tmod m < m := by
  have h := Int.tmod_eq_emod (a := x) (b := m)
  have a := Int.emod_nonneg x (show m ≠ 0 by omega)
  have b := Int.emod_lt_of_pos x (show 0 < m by omega)
  have e : (m.natAbs : Int) = m := Int.natAbs_of_nonneg (by omega)
  split at h
  · omega
  · rename_i hn
    have c : x % m ≠ 0 := fun h0 => hn (.inr (Int.dvd_of_emod_eq_zero h0))
    omega
theorem ret_int {a b : Int} (h : a = b) : Ending.returned (.int .i64 a) = .returned (.int .i64 b) := by rw [h]
theorem fmod_walk (x m : Int) (w : World) (x1 : -9223372036854775808 ≤ x) (x2 : x ≤ 9223372036854775807) (m1 : 1 ≤ m) (m2 : m ≤ 9223372036854775807) : Calls Try.prog 72 #[.int .i64 x, .int .i64 m] w (fun e w' => e = .returned (.int .i64 (x % m)) ∧ w = w') := by
  obtain ⟨t1, t2, t3, t4⟩ := tm (x := x) m1
  have T1 := Lib.hid t1
  have T2 := Lib.hid t2
  clear t1 t2
  have hw := wrap_self (z := x.tmod m) (by omega) (by omega)
  by_cases h : x.tmod m < 0
  · have hw2 := wrap_self (z := x.tmod m + m) (by omega) (by omega)
    go_enter Try.func72, Try.ntmps72
    go_wp2_with fail
    go_ret
    exact ⟨ret_int (T2.out h), rfl⟩
  · go_enter Try.func72, Try.ntmps72
    go_wp2_with fail
    go_ret
    exact ⟨ret_int (T1.out h), rfl⟩
end Go.Proofs.Ytdngkeefbpffcaa

set_option autoImplicit false
set_option linter.unusedVariables false
namespace Go.Proofs.Ytdngkeefbpffcaa
open Go.RowKit Lk Fo
/-- a slice of so many numbers -/
structure Sl (w : World) (a : Option Addr) (n cap : Nat) (l : List Int) : Prop where
  len : l.length = n
  cap : n ≤ cap
  small : n ≤ 9223372036854775807
  range : ∀ x ∈ l, -9223372036854775808 ≤ x ∧ x ≤ 9223372036854775807
  cells : n = 0 ∨ ∃ b off, a = some ⟨b, off, none⟩ ∧ b < w.heap.size ∧ ∀ j (h : j < l.length), w.cell? ⟨b, off + j, none⟩ = some (.int .i64 (l[j]))
theorem Sl.keep {w w' : World} {a : Option Addr} {n cap : Nat} {l : List Int} (h : Sl w a n cap l) (b : Below w.heap.size w w') : Sl w' a n cap l :=
  ⟨h.len, h.cap, h.small, h.range, h.cells.imp id fun ⟨g, off, ha, hg, hc⟩ => ⟨g, off, ha, Nat.lt_of_lt_of_le hg b.size, fun j hj => (b.cell (p := ⟨g, off + j, none⟩) hg).trans (hc j hj)⟩⟩
/-- the k-th: its place, its cell -/
theorem Sl.at {w : World} {a : Option Addr} {n cap : Nat} {l : List Int} (h : Sl w a n cap l) {k : Nat} (hk : k < n) :
    ∃ b off x, a = some ⟨b, off, none⟩ ∧ b < w.heap.size ∧ l[k]? = some x ∧ w.cell? ⟨b, off + k, none⟩ = some (.int .i64 x) ∧ -9223372036854775808 ≤ x ∧ x ≤ 9223372036854775807 := by
  rcases h.cells with h0 | ⟨b, off, ha, hb, hc⟩
  · omega
  · have hl : k < l.length := by rw [h.len]; exact hk
    have := h.range _ (List.getElem_mem hl)
    exact ⟨b, off, l[k], ha, hb, List.getElem?_eq_getElem hl, hc k hl, this.1, this.2⟩
theorem zip_drop {R M : List Int} {k : Nat} {r m : Int} (hr : R[k]? = some r) (hm : M[k]? = some m) : (R.zip M).drop k = (r, m) :: (R.zip M).drop (k + 1) := by
  obtain ⟨h1, e1⟩ := List.getElem?_eq_some_iff.1 hr
  obtain ⟨h2, e2⟩ := List.getElem?_eq_some_iff.1 hm
  have hk : k < (R.zip M).length := by rw [List.length_zip]; omega
  rw [List.drop_eq_getElem_cons hk, List.getElem_zip, e1, e2]
theorem zip_drop_end {R M : List Int} {k : Nat} (h : R.length ≤ k ∨ M.length ≤ k) : (R.zip M).drop k = [] := by
  apply List.drop_eq_nil_of_le
  rw [List.length_zip]; omega
end Go.Proofs.Ytdngkeefbpffcaa
