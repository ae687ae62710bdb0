import Derived.Test.YtoobpiednigcgaaSmRT
import Derived.Test.YtoobpiednigcgaaFlO
import Derived.Test.YtoobpiednigcgaaFlP
set_option autoImplicit false
set_option linter.unusedVariables false
namespace Go.Proofs.Ytoobpiednigcgaa
open Go.RowKit Lk
def F0 : Nat := 0
def F1 : Nat := 4607182418800017408
def F2 : Nat := 4611686018427387904
def F3 : Nat := 4613937818241073152
def F5 : Nat := 4617315517961601024
def Fh : Nat := 4602678819172646912
theorem works_line : lineR [0, 4607182418800017408, 4611686018427387904] [4607182418800017408, 4613937818241073152, 4617315517961601024] = (4607182418800017408, 4611686018427387904, 0) := by decide +kernel
theorem works_turnsE : turnsE [0, 4607182418800017408, 4611686018427387904, 4613937818241073152] [0, 4607182418800017408, 4611686018427387904, 0] 4602678819172646912 = 0 := by decide +kernel
theorem works_turnsR : turnsR [0, 4607182418800017408, 4611686018427387904, 4613937818241073152] [0, 4607182418800017408, 4611686018427387904, 0] 4602678819172646912 = [2] := by decide +kernel
/-- a slice of whole numbers -/
structure Is1 (w : World) (a : Option Addr) (n : Nat) (l : List Nat) : Prop where
  len : l.length = n
  small : n ≤ 9223372036854775807
  cells : n = 0 ∨ ∃ b off, a = some ⟨b, off, none⟩ ∧ b < w.heap.size ∧ ∀ j (h : j < l.length), w.cell? ⟨b, off + j, none⟩ = some (.int .i64 ((l[j] : Nat) : Int))
theorem Is1.keep {w w' : World} {a : Option Addr} {n : Nat} {l : List Nat} (h : Is1 w a n l) (b : Below w.heap.size w w') : Is1 w' a n l :=
  ⟨h.len, h.small, h.cells.imp id fun ⟨g, off, ha, hg, hc⟩ => ⟨g, off, ha, Nat.lt_of_lt_of_le hg b.size, fun j hj => (b.cell (p := ⟨g, off + j, none⟩) hg).trans (hc j hj)⟩⟩
theorem Is1.at {w : World} {a : Option Addr} {n : Nat} {l : List Nat} (h : Is1 w a n l) {k : Nat} (hk : k < n) :
    ∃ b off x, a = some ⟨b, off, none⟩ ∧ b < w.heap.size ∧ l[k]? = some x ∧ w.cell? ⟨b, off + k, none⟩ = some (.int .i64 ((x : Nat) : Int)) := by
  rcases h.cells with h0 | ⟨b, off, ha, hb, hc⟩
  · omega
  · have hl : k < l.length := by rw [h.len]; exact hk
    exact ⟨b, off, l[k], ha, hb, List.getElem?_eq_getElem hl, hc k hl⟩
theorem own_is {w : World} {B n : Nat} {v : Value} {l : List Nat} (h : w.ownsRow B 3 1 v n (nns l)) : ∃ a cap, v = .slice a n cap ∧ Is1 w a n l := by
  have hlen : l.length = n := by have := h.1; simpa [nns] using this
  rcases h.2 with ⟨rfl, rfl⟩ | ⟨g, cap, cur, rfl, _, hg, hc, hm, hs, ht⟩
  · exact ⟨none, 0, rfl, hlen, by omega, .inl rfl⟩
  · refine ⟨some ⟨g, 0, none⟩, cap, rfl, hlen, by unfold maxLen at hm; omega, .inr ⟨g, 0, rfl, (Array.getElem?_eq_some_iff.1 hg).1, fun j hj => ?_⟩⟩
    rw [h.cellAt (0 + j) (by omega)]
    simp [nns, hj]
/-- the comparison of two rows of whole numbers, alike -/
theorem ints_same (a b : Option Addr) (n c d : Nat) (l : List Nat) (w : World) (h : Is1 w a n l) (h' : Is1 w b n l) :
    Calls Try.prog 20 #[.slice a n c, .slice b n d] w (fun e w' => e = .returned (.bool true) ∧ Below w.heap.size w w') := by
  have HA := Lib.hid h
  have HB := Lib.hid h'
  have hn := h.small
  clear h h'
  go_enter Try.func20, Try.ntmps20
  go_wp2_with fail
  go_loopw [13] (fun i wr => ∃ k : Nat, k ≤ n ∧ i = .int .i64 k ∧ Below w.heap.size w wr) (fun i _ => n - (intOf i).toNat)
  case atStart => exact ⟨0, by omega, rfl, Below.refl _ _⟩
  case round =>
    obtain ⟨k, hk, rfl, hb⟩ := hrel
    have H := Lib.hid hb
    clear hb
    by_cases hlt : k < n
    · obtain ⟨b1, o1, x, rfl, hb1, hx, hc1⟩ := (HA.out.keep H.out).at hlt
      obtain ⟨b2, o2, y, rfl, hb2, hy, hc2⟩ := (HB.out.keep H.out).at hlt
      obtain rfl : x = y := by rw [hx] at hy; exact Option.some.inj hy
      have k1 : (k : Int) < n := by omega
      clear hx hy
      go_wp2_with fail
      refine wp_region_drew TNo (by kernel_rfl) (by kernel_rfl) ?_
      repeat' (refine wpSet_step (fun K hK => ?_); go_simp; (refine drew_value (v := ?_) (fun n => ?_) ?_; rotate_left; (· go_simp; rfl); (refine hK _ ?_; clear hK K)))
      refine wpSet_nil ?_
      intro n1
      go_wp2_with fail
      go_roundw
      case rel => exact ⟨k + 1, by omega, by go_num, below_drewN H.out _⟩
      case measure => simp [intOf]; omega
    · obtain rfl : k = n := by omega
      go_wp2_with fail
      go_ret
      exact ⟨rfl, H.out⟩
end Go.Proofs.Ytoobpiednigcgaa
