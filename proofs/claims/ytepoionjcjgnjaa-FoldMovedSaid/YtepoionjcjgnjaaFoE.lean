import Derived.Test.YtepoionjcjgnjaaFoM
import Derived.BigRegion
set_option autoImplicit false
set_option linter.unusedVariables false
namespace Go.Proofs.Ytepoionjcjgnjaa
open Go.RowKit Lk Fo
theorem al (w : World) (o : Obj) (g : Nat) : (w.alloc o).heap[g]? = if g = w.heap.size then some o else w.heap[g]? := Array.getElem?_push
structure TN (f : FuncId) (args : Array Value) (u : Value) (w : World) : Prop where
  a : False
def rowA (r : Row) : Array Value := #[.int .i64 r.g, .int .i64 r.x, .int .i64 r.y]
/-- a row's block -/
def BlE (W : World) (g : Nat) (r : Row) : Prop := W.heap[g]? = some (.cells (rowA r) 42 (0, 0))
theorem BlE.cells {W : World} {g : Nat} {r : Row} (h : BlE W g r) : W.cell? ⟨g, 0, none⟩ = some (.int .i64 r.g) ∧ W.cell? ⟨g, 1, none⟩ = some (.int .i64 r.x) ∧ W.cell? ⟨g, 2, none⟩ = some (.int .i64 r.y) :=
  ⟨cell_of_heap h 0, cell_of_heap h 1, cell_of_heap h 2⟩
theorem BlE.drew {W : World} {g : Nat} {r : Row} (h : BlE W g r) : BlE W.drew g r := h
theorem BlE.other3 {W : World} {g k : Nat} {r r' : Row} (h : BlE W k r) (hk : k ≠ g) : BlE (((W.setCell ⟨g, 0, none⟩ (.int .i64 r'.g)).setCell ⟨g, 1, none⟩ (.int .i64 r'.x)).setCell ⟨g, 2, none⟩ (.int .i64 r'.y)) k r := by
  unfold BlE
  rw [Deep.blk_setCell_other _ _ _ _ hk, Deep.blk_setCell_other _ _ _ _ hk, Deep.blk_setCell_other _ _ _ _ hk]
  exact h
theorem BlE.set3 {W : World} {g : Nat} {r : Row} (h : BlE W g r) (r' : Row) : BlE (((W.setCell ⟨g, 0, none⟩ (.int .i64 r'.g)).setCell ⟨g, 1, none⟩ (.int .i64 r'.x)).setCell ⟨g, 2, none⟩ (.int .i64 r'.y)) g r' := by
  have hlt := (Array.getElem?_eq_some_iff.1 h).1
  have hv : W.heap[g] = _ := (Array.getElem?_eq_some_iff.1 h).2
  unfold BlE World.setCell
  simp [Array.getElem?_modify, rowA]
  exact ⟨_, h, rfl⟩
theorem BlE.frozen {W : World} {g : Nat} {r : Row} (h : BlE W g r) (i : Nat) : W.frozen? ⟨g, i, none⟩ = false := by
  unfold World.frozen?; rw [h]; simp
set_option maxHeartbeats 2000000 in
theorem euclid_walk (a b : Int) (w : World) (h1 : 0 ≤ a) (h2 : a ≤ 9223372036854775807) (h3 : 0 ≤ b) (h4 : b ≤ 9223372036854775807) : Calls Try.prog 26 #[.int .i64 a, .int .i64 b] w
    (fun e w' => e = .returned (.agg (rowA (gcdR a b))) ∧ Below w.heap.size w w') := by
  have HS := Lib.hid (rws_start h1 h2 h3 h4)
  clear h1 h2 h3 h4
  go_enter Try.func26, Try.ntmps26
  go_wp2_with (first
    | (refine wpList_store_new rfl (ty := 42) (x := .tmp 5) (y := .tmp 9) rfl (g := w.heap.size + 1) rfl rfl (t := 42) (old := rowA ⟨0, 0, 0⟩) (by rw [al, al, if_neg (by simp), if_pos (by simp)]; rfl) (by kernel_rfl) rfl (by simp [Value.oneCell']) (B := w.heap.size) (w0 := w) (by (repeat' (first | exact Below.refl _ _ | refine below_drewN ?_ _ | refine Below.setCell ?_ (by first | exact Nat.le_refl _ | (simp; done) | (simp; omega)) _ | refine Below.alloc ?_ (by first | exact Nat.le_refl _ | (simp; done) | (simp; omega)) _))) (by omega) ?_; intro w4 hg4 hb4 hz4 ho4)
    | (refine wpList_store_new rfl (ty := 42) (x := .tmp 6) (y := .tmp 11) rfl (g := w.heap.size + 1 + 1) rfl rfl (t := 42) (old := rowA ⟨0, 0, 0⟩) (by rw [ho4 _ (by omega), al, if_pos (by simp)]; rfl) (by kernel_rfl) rfl (by simp [Value.oneCell']) (B := w.heap.size) (w0 := w) hb4 (by omega) ?_; intro w5 hg5 hb5 hz5 ho5))
  have z1 : BlE w5 (w.heap.size + 1) ⟨a, 1, 0⟩ := (ho5 _ (by omega)).trans hg4
  have z2 : BlE w5 (w.heap.size + 1 + 1) ⟨b, 0, 1⟩ := hg5
  have z3 : w5.heap[w.heap.size]? = some (.cells (rowA ⟨0, 0, 0⟩) 42 (0, 0)) := by rw [ho5 _ (by omega), ho4 _ (by omega), al, if_neg (by simp; omega), al, if_neg (by simp), al, if_pos rfl]; rfl
  clear hg4 hb4 hz4 ho4 hg5 hz5 ho5
  have Z := Lib.hid (And.intro z1 (And.intro z2 (And.intro z3 hb5)))
  clear z1 z2 z3 hb5
  go_wp2_with fail
  simp only [Act.put]
  go_loopw [7] (fun v wr => ∃ one two : Row, BlE wr (w.heap.size + 1) one ∧ BlE wr (w.heap.size + 1 + 1) two ∧ Rws a b one two ∧ Below w.heap.size w wr ∧ wr.heap[w.heap.size]? = some (.cells (rowA ⟨0, 0, 0⟩) 42 (0, 0))) (fun _ wr => (intOf ((wr.cell? ⟨w.heap.size + 1 + 1, 0, none⟩).getD default)).toNat)
  case atStart => exact ⟨⟨a, 1, 0⟩, ⟨b, 0, 1⟩, Z.out.1, Z.out.2.1, HS.out, Z.out.2.2.2, Z.out.2.2.1⟩
  case round =>
    clear Z HS
    obtain ⟨one, two, hb1, hb2, hr, hB, h0b⟩ := hrel
    have hr0 := hr.1
    have R := Lib.hid hr
    clear hr
    obtain ⟨c10, c11, c12⟩ := hb1.cells
    obtain ⟨c20, c21, c22⟩ := hb2.cells
    have B1 := Lib.hid hb1
    have B2 := Lib.hid hb2
    have BB := Lib.hid hB
    have B0 := Lib.hid h0b
    clear hb1 hb2 hB h0b
    by_cases h0 : two.g = 0
    · have E := Lib.hid (rws_end R.out h0)
      go_wp2_with (refine wpList_store_new rfl (ty := 42) (x := .tmp 4) (y := .tmp 43) rfl (g := w.heap.size) rfl rfl B0.out (by kernel_rfl) rfl (by simp [Value.oneCell']) (B := w.heap.size) (w0 := w) BB.out (by omega) ?_; intro w4 hg4 hb4 hz4 ho4)
      have hx : BlE w4 w.heap.size one := hg4
      obtain ⟨d0, d1, d2⟩ := hx.cells
      refine bodyPost_ret (v := ?_) ?_ rfl ?_
      rotate_left
      · simp [results, Try.results26, go_sem, d0, d1, d2]; rfl
      · refine ⟨?_, hb4⟩
        rw [← E.out]; rfl
    · have E := Lib.hid (rws_step R.out h0)
      have hd := tdiv_pos (b := two.g) hr0
      have hq := quo_wrap (b := two.g) hr0 R.out.2.1 R.out.2.2.1
      go_wp2_with fail
      have zz := BB.out.size
      have l1 := (Array.getElem?_eq_some_iff.1 B1.out).1
      have l2 := (Array.getElem?_eq_some_iff.1 B2.out).1
      have f1 := fun i => B1.out.frozen i
      have f2 := fun i => B2.out.frozen i
      have H3 : Hid (∀ x : World, x = ((((((wr.setCell ⟨w.heap.size + 1, 0, none⟩ (.int .i64 two.g)).setCell ⟨w.heap.size + 1, 1, none⟩ (.int .i64 two.x)).setCell ⟨w.heap.size + 1, 2, none⟩ (.int .i64 two.y)).setCell ⟨w.heap.size + 1 + 1, 0, none⟩ (.int .i64 (stp one two).g)).setCell ⟨w.heap.size + 1 + 1, 1, none⟩ (.int .i64 (stp one two).x)).setCell ⟨w.heap.size + 1 + 1, 2, none⟩ (.int .i64 (stp one two).y)).drew →
          BlE x (w.heap.size + 1) two ∧ BlE x (w.heap.size + 1 + 1) (stp one two) ∧ Below w.heap.size w x ∧ x.heap[w.heap.size]? = some (.cells (rowA ⟨0, 0, 0⟩) 42 (0, 0))) := Lib.hid (by
        rintro x rfl
        have s1 := B1.out.set3 two
        have s2 := (BlE.other3 (g := w.heap.size + 1) (r' := two) B2.out (by omega)).set3 (stp one two)
        refine ⟨BlE.drew (BlE.other3 s1 (by omega)), BlE.drew s2, ?_, ?_⟩
        · refine Below.drew ?_
          exact (((((BB.out.setCell (by simp) _).setCell (by simp) _).setCell (by simp) _).setCell (by simp; omega) _).setCell (by simp; omega) _).setCell (by simp; omega) _
        · exact BlE.drew (r := ⟨0, 0, 0⟩) (BlE.other3 (r := ⟨0, 0, 0⟩) (BlE.other3 (r := ⟨0, 0, 0⟩) B0.out (by omega)) (by omega)))
      clear B0 BB l1 l2 zz B1 B2 R
      go_region
      go_wp2_with fail
      go_roundw
      case rel => exact (H3.out _ rfl).elim fun y1 h => h.elim fun y2 h => ⟨two, stp one two, y1, y2, E.out.1, h.1, h.2⟩
      case measure =>
        rw [c20]
        exact Nat.lt_of_le_of_lt (Nat.le_of_eq (congrArg (fun v : Option Value => (intOf (v.getD default)).toNat) (BlE.cells (H3.out _ rfl).2.1).1)) E.out.2
end Go.Proofs.Ytepoionjcjgnjaa
