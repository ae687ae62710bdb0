import Derived.Test.YtdngkeefbpffcaaPlD2
import Derived.IntWalk
set_option autoImplicit false
set_option linter.unusedVariables false
namespace Pl
open Lk
def swp (D : List Nat) (j : Nat) : List Nat := (D.set j (D.getD (j - 1) 0)).set (j - 1) (D.getD j 0)
/-- one element sinks -/
def bub (lt : Nat → Nat → Bool) (a : Nat) : Nat → List Nat → List Nat
  | 0, D => D
  | j + 1, D => if decide (a < j + 1) && lt (D.getD (j + 1) 0) (D.getD j 0) then bub lt a j (swp D (j + 1)) else D
def insF (lt : Nat → Nat → Bool) (a b : Nat) (D : List Nat) : List Nat := (List.range (b - a - 1)).foldl (fun D k => bub lt a (a + 1 + k) D) D
theorem insF_start (lt : Nat → Nat → Bool) (a : Nat) (D : List Nat) : insF lt a (a + 1) D = D := by unfold insF; rw [show a + 1 - a - 1 = 0 by omega]; rfl
theorem insF_succ (lt : Nat → Nat → Bool) {a i : Nat} (D : List Nat) (h : a + 1 ≤ i) : insF lt a (i + 1) D = bub lt a i (insF lt a i D) := by
  unfold insF
  rw [show i + 1 - a - 1 = i - a - 1 + 1 by omega, List.range_succ, List.foldl_append]
  simp only [List.foldl_cons, List.foldl_nil]
  rw [show a + 1 + (i - a - 1) = i by omega]
theorem insF_small (lt : Nat → Nat → Bool) {a b : Nat} (D : List Nat) (h : b ≤ a + 1) : insF lt a b D = D := by unfold insF; rw [show b - a - 1 = 0 by omega]; rfl
theorem bub_stop (lt : Nat → Nat → Bool) {a j : Nat} (D : List Nat) (h : j ≤ a) : bub lt a j D = D := by
  cases j with
  | zero => rfl
  | succ j => rw [bub, if_neg]; simp; omega
theorem bub_no (lt : Nat → Nat → Bool) {a j : Nat} (D : List Nat) (h : lt (D.getD (j + 1) 0) (D.getD j 0) = false) : bub lt a (j + 1) D = D := by
  rw [bub, if_neg]; rw [h]; simp
theorem bub_yes (lt : Nat → Nat → Bool) {a j : Nat} (D : List Nat) (ha : a < j + 1) (h : lt (D.getD (j + 1) 0) (D.getD j 0) = true) : bub lt a (j + 1) D = bub lt a j (swp D (j + 1)) := by
  rw [bub, if_pos]; rw [h]; simp [ha]
theorem swp_len (D : List Nat) (j : Nat) : (swp D j).length = D.length := by simp [swp]
theorem swp_mem {D : List Nat} {j n : Nat} (hj : j < D.length) (h : ∀ x ∈ D, x < n) : ∀ x ∈ swp D j, x < n := by
  intro x hx
  have g : ∀ k, k < D.length → D.getD k 0 < n := fun k hk => by
    rw [List.getD_eq_getElem?_getD, List.getElem?_eq_getElem hk]; exact h _ (List.getElem_mem hk)
  unfold swp at hx
  rcases List.mem_or_eq_of_mem_set hx with hx | rfl
  · rcases List.mem_or_eq_of_mem_set hx with hx | rfl
    · exact h x hx
    · exact g _ (by omega)
  · exact g _ hj
end Pl
namespace Go.Proofs.Ytdngkeefbpffcaa
open Go.RowKit Lk Pl
def ints (D : List Nat) : List Value := D.map (fun (n : Nat) => Value.int .i64 (n : Int))
/-- a row of whole numbers of its own -/
def Di (w : World) (g : Nat) (D : List Nat) : Prop := w.heap[g]? = some (.cells (ints D).toArray 3 (0, 0))
theorem Di.lt {w : World} {g : Nat} {D : List Nat} (h : Di w g D) : g < w.heap.size := (Array.getElem?_eq_some_iff.1 h).1
theorem Di.keep {w w' : World} {g : Nat} {D : List Nat} (h : Di w g D) (b : Below w.heap.size w w') : Di w' g D := (b.block _ h.lt).trans h
theorem Di.cell {w : World} {g : Nat} {D : List Nat} (h : Di w g D) {j x : Nat} (hj : D[j]? = some x) : w.cell? ⟨g, j, none⟩ = some (.int .i64 (x : Int)) := by
  rw [cell_of_heap h j]; unfold ints; rw [List.getElem?_toArray, List.getElem?_map, hj]; rfl
theorem Di.frozen {w : World} {g : Nat} {D : List Nat} (h : Di w g D) (i : Nat) : w.frozen? ⟨g, i, none⟩ = false := by unfold World.frozen?; rw [h]; rfl
theorem cells_set (w : World) (g o : Nat) (u : Value) {cur : Array Value} {t : TypeId} {f : Nat × Nat} (h : w.heap[g]? = some (.cells cur t f)) : (w.setCell ⟨g, o, none⟩ u).heap[g]? = some (.cells (cur.setIfInBounds o u) t f) := by
  obtain ⟨h1, h2⟩ := Array.getElem?_eq_some_iff.1 h
  unfold World.setCell
  simp only
  rw [Array.getElem?_eq_getElem (by simpa using h1), Array.getElem_modify]
  simp [h2]
theorem Di.set {w : World} {g : Nat} {D : List Nat} (h : Di w g D) (j x : Nat) : Di (w.setCell ⟨g, j, none⟩ (.int .i64 (x : Int))) g (D.set j x) := by
  unfold Di
  rw [cells_set w g j _ h]; unfold ints; simp [List.map_set]
/-- the comparator -/
def ltI (l : List Pt) (i j : Nat) : Bool := decide (ordP (l.getD i ⟨0, 0, 0, 0, 0⟩) (l.getD j ⟨0, 0, 0, 0, 0⟩) < 0)
end Go.Proofs.Ytdngkeefbpffcaa
