import Derived.Test.YtoobpiednigcgaaSmRT
import Derived.Test.YtoobpiednigcgaaFlO
import Derived.Deep.DeepCutAuto
import Derived.Deep.CutBlock
import Derived.BigRegion
import Derived.RegionTactic
import Derived.Deep.RegionWith
set_option autoImplicit false
set_option linter.unusedVariables false
namespace Go.Proofs.Ytoobpiednigcgaa
open Go.RowKit Lk
@[reducible] def sv5 (s : St) : Value := .agg #[.float .f64 s.x, .float .f64 s.v, .float .f64 s.pxx, .float .f64 s.pxv, .float .f64 s.pvv]
/-- a block of its own that holds a state -/
def Bs (w : World) (g : Nat) (s : St) : Prop := w.heap[g]? = some (.cells #[.float .f64 s.x, .float .f64 s.v, .float .f64 s.pxx, .float .f64 s.pxv, .float .f64 s.pvv] 27 (0, 0))
theorem Bs.lt {w : World} {g : Nat} {s : St} (h : Bs w g s) : g < w.heap.size := (Array.getElem?_eq_some_iff.1 h).1
theorem Bs.keep {w w' : World} {g : Nat} {s : St} (h : Bs w g s) (hb : Below w.heap.size w w') : Bs w' g s := (hb.block _ h.lt).trans h
theorem Bs.at {w : World} {g : Nat} {s : St} (h : Bs w g s) : At5 w g 0 s := ⟨cell_of_heap h 0, cell_of_heap h 1, cell_of_heap h 2, cell_of_heap h 3, cell_of_heap h 4⟩
theorem two_cells {w : World} {g : Nat} {u v : Value} {t : TypeId} (hn : w.heap[g]? = some (.cells #[u, v] t (0, 0))) : w.cell? ⟨g, 0, none⟩ = some u ∧ w.cell? ⟨g, 1, none⟩ = some v := ⟨cell_of_heap hn 0, cell_of_heap hn 1⟩
theorem four_cells {w : World} {g : Nat} {a b c d : Value} {t : TypeId} (hn : w.heap[g]? = some (.cells #[a, b, c, d] t (0, 0))) : w.cell? ⟨g, 0, none⟩ = some a ∧ w.cell? ⟨g, 1, none⟩ = some b ∧ w.cell? ⟨g, 2, none⟩ = some c ∧ w.cell? ⟨g, 3, none⟩ = some d := ⟨cell_of_heap hn 0, cell_of_heap hn 1, cell_of_heap hn 2, cell_of_heap hn 3⟩
theorem Bs.cells {w : World} {g : Nat} {s : St} (h : Bs w g s) : w.cell? ⟨g, 0, none⟩ = some (.float .f64 s.x) ∧ w.cell? ⟨g, 1, none⟩ = some (.float .f64 s.v) ∧ w.cell? ⟨g, 2, none⟩ = some (.float .f64 s.pxx) ∧ w.cell? ⟨g, 3, none⟩ = some (.float .f64 s.pxv) ∧ w.cell? ⟨g, 4, none⟩ = some (.float .f64 s.pvv) := ⟨cell_of_heap h 0, cell_of_heap h 1, cell_of_heap h 2, cell_of_heap h 3, cell_of_heap h 4⟩
theorem new_lt {w : World} {g : Nat} {o : Obj} (hn : w.heap[g]? = some o) : g < w.heap.size := (Array.getElem?_eq_some_iff.1 hn).1
theorem one_fl2 (x y : Nat) : (#[Value.float .f64 x, Value.float .f64 y].all (·.oneCell')) = true := by simp [Value.oneCell']
theorem one_fl5 (x y z u v : Nat) : (#[Value.float .f64 x, Value.float .f64 y, Value.float .f64 z, Value.float .f64 u, Value.float .f64 v].all (·.oneCell')) = true := by simp [Value.oneCell']
theorem al (w : World) (o : Obj) (k : Nat) : (w.alloc o).heap[k]? = if k = w.heap.size then some o else w.heap[k]? := by
  by_cases h : k = w.heap.size
  · subst h; rw [if_pos rfl]; exact Deep.blk_alloc_new _ _
  · rw [if_neg h]; show (w.heap.push o)[k]? = _; rw [Array.getElem?_push, if_neg h]
theorem szA (w : World) (o : Obj) : (w.alloc o).heap.size = w.heap.size + 1 := by show (w.heap.push o).size = _; simp
theorem hpD (w : World) (n : Nat) : (w.drewN n).heap = w.heap := rfl
theorem Bs.old {w : World} {g : Nat} {s : St} (h : Bs w g s) (o : Obj) : Bs (w.alloc o) g s := h.keep ((Below.refl _ w).alloc (Nat.le_refl _) o)
theorem Bs.new' (w : World) (s : St) {k : Nat} (hk : k = w.heap.size) : Bs (w.alloc (.cells #[.float .f64 s.x, .float .f64 s.v, .float .f64 s.pxx, .float .f64 s.pxv, .float .f64 s.pvv] 27)) k s := by subst hk; exact Deep.blk_alloc_new _ _
end Go.Proofs.Ytoobpiednigcgaa
