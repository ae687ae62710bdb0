import Derived.Test.YtdngkeefbpffcaaFnM
set_option autoImplicit false
set_option linter.unusedVariables false
namespace Go.Proofs.Ytdngkeefbpffcaa
open Go.RowKit Lk Fo
/-- a slice of so many numbers -/
structure Sl (w : World) (a : Option Addr) (n cap : Nat) (l : List Int) : Prop where
  len : l.length = n
  cap : n ≤ cap
  small : n ≤ 9223372036854775807
  range : ∀ x ∈ l, -9223372036854775808 ≤ x ∧ x ≤ 9223372036854775807
  cells : n = 0 ∨ ∃ b off, a = some ⟨b, off, none⟩ ∧ b < w.heap.size ∧ ∀ j (h : j < l.length), w.cell? ⟨b, off + j, none⟩ = some (.int .i64 (l[j]))
theorem Sl.keep {w w' : World} {a : Option Addr} {n cap : Nat} {l : List Int} (h : Sl w a n cap l) (b : Below w.heap.size w w') : Sl w' a n cap l :=
  ⟨h.len, h.cap, h.small, h.range, h.cells.imp id fun ⟨g, off, ha, hg, hc⟩ => ⟨g, off, ha, Nat.lt_of_lt_of_le hg b.size, fun j hj => (b.cell (p := ⟨g, off + j, none⟩) hg).trans (hc j hj)⟩⟩
/-- the k-th: its place, its cell -/
theorem Sl.at {w : World} {a : Option Addr} {n cap : Nat} {l : List Int} (h : Sl w a n cap l) {k : Nat} (hk : k < n) :
    ∃ b off x, a = some ⟨b, off, none⟩ ∧ b < w.heap.size ∧ l[k]? = some x ∧ w.cell? ⟨b, off + k, none⟩ = some (.int .i64 x) ∧ -9223372036854775808 ≤ x ∧ x ≤ 9223372036854775807 := by
  rcases h.cells with h0 | ⟨b, off, ha, hb, hc⟩
  · omega
  · have hl : k < l.length := by rw [h.len]; exact hk
    have := h.range _ (List.getElem_mem hl)
    exact ⟨b, off, l[k], ha, hb, List.getElem?_eq_getElem hl, hc k hl, this.1, this.2⟩
theorem zip_drop {R M : List Int} {k : Nat} {r m : Int} (hr : R[k]? = some r) (hm : M[k]? = some m) : (R.zip M).drop k = (r, m) :: (R.zip M).drop (k + 1) := by
  obtain ⟨h1, e1⟩ := List.getElem?_eq_some_iff.1 hr
  obtain ⟨h2, e2⟩ := List.getElem?_eq_some_iff.1 hm
  have hk : k < (R.zip M).length := by rw [List.length_zip]; omega
  rw [List.drop_eq_getElem_cons hk, List.getElem_zip, e1, e2]
theorem zip_drop_end {R M : List Int} {k : Nat} (h : R.length ≤ k ∨ M.length ≤ k) : (R.zip M).drop k = [] := by
  apply List.drop_eq_nil_of_le
  rw [List.length_zip]; omega
end Go.Proofs.Ytdngkeefbpffcaa
