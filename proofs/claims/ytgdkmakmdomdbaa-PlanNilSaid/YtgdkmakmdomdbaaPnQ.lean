import Derived.Test.YtgdkmakmdomdbaaPnWa
set_option autoImplicit false
set_option linter.unusedVariables false
namespace Go.Proofs.Ytgdkmakmdomdbaa
open Go.RowKit Lk Pn
theorem nil_next (w : World) : Calls Try.prog 17 #[.pointer none] w (fun e w' => e = .returned (.tuple #[.agg (slc ⟨0, 0, 0, false⟩), .int .i64 1]) ∧ Below w.heap.size w w') := by
  have ZB := Lib.hid (Deep.blk_alloc_new w (.cells (slc ⟨0, 0, 0, false⟩) 42))
  go_enter Try.func17, Try.ntmps17
  go_wp2_with (refine wpList_store_at rfl (ty := 42) (x := .tmp 2) (y := .tmp 11) rfl (g := w.heap.size) (j := 0) (cells := slc ⟨0, 0, 0, false⟩) rfl rfl ZB.out (by kernel_rfl) (Nat.le_refl _) (slc_one _) ?_; intro w8 hz8 on8)
  rw [slc_put] at hz8
  have d0 := blk_cell hz8 0
  have d1 := blk_cell hz8 1
  have d2 := blk_cell hz8 2
  have d3 := blk_cell hz8 3
  simp only [slc] at d0 d1 d2 d3
  exact bodyPost_ret (v := .tuple #[.agg (slc ⟨0, 0, 0, false⟩), .int .i64 1]) (by simp [results, Try.results17, go_sem, d0, d1, d2, d3, slc]) rfl ⟨rfl, ((Below.refl _ _).alloc (Nat.le_refl _) _).trans (on8.below (Nat.le_refl _))⟩
theorem nil_load (w : World) : Calls Try.prog 13 #[.pointer none] w (fun e w' => e = .returned (.tuple #[.int .i64 0, .int .i64 0]) ∧ w = w') := by
  go_enter Try.func13, Try.ntmps13
  go_wp2_with fail
  go_ret2
  exact ⟨rfl, rfl⟩
theorem nil_until (n : Int) (w : World) : Calls Try.prog 18 #[.pointer none, .int .i64 n] w (fun e w' => e = .returned (.slice none 0 0) ∧ w = w') := by
  go_enter Try.func18, Try.ntmps18
  go_wp2_with fail
  go_ret
  exact ⟨rfl, rfl⟩
theorem nil_set (i : Int) (t : Tk) (w : World) : Calls Try.prog 19 #[.pointer none, .int .i64 i, .agg #[.int .i64 t.ev, .int .i64 t.lg, .int .i64 t.rk]] w (fun e w' => e = .returned (.int .i64 1) ∧ Below w.heap.size w w') := by
  go_enter Try.func19, Try.ntmps19
  go_wp2_with fail
  go_ret
  exact ⟨rfl, by (repeat' (first | exact Below.refl _ _ | refine below_drewN ?_ _ | refine Below.setCell ?_ (by first | exact Nat.le_refl _ | (simp; done) | (simp; omega)) _ | refine Below.alloc ?_ (by first | exact Nat.le_refl _ | (simp; done) | (simp; omega)) _))⟩
theorem nil_now (w : World) : Calls Try.prog 15 #[.pointer none] w (fun e w' => e = .returned (.int .i64 0) ∧ w = w') := by
  go_enter Try.func15, Try.ntmps15
  go_wp2_with fail
  go_ret
  exact ⟨rfl, rfl⟩
set_option maxRecDepth 100000 in
set_option maxHeartbeats 2000000 in
theorem nil_law (n i ev lg rk : Int) (w : World) : Calls Try.prog 4 #[.int .i64 n, .int .i64 i, .agg #[.int .i64 ev, .int .i64 lg, .int .i64 rk]] w (fun e w' => e = .returned (.bool true) ∧ Below w.heap.size w w') := by
  go_enter Try.func4, Try.ntmps4
  go_wp2_with fail
  refine (nil_next _).mono ?_
  rintro e w1 ⟨rfl, b1⟩
  simp only [slc]
  have bA : Below w.heap.size w (w.alloc (.cells #[.int .i64 ev, .int .i64 lg, .int .i64 rk] 26)) := (Below.refl _ _).alloc (Nat.le_refl _) _
  have B1 := Lib.hid (bA.trans (b1.mono (by rw [al_size]; omega)))
  have T1 := (b1.block w.heap.size (by rw [al_size]; omega)).trans (Deep.blk_alloc_new w (.cells #[.int .i64 ev, .int .i64 lg, .int .i64 rk] 26))
  have t0 := blk_cell T1 0
  have t1 := blk_cell T1 1
  have t2 := blk_cell T1 2
  have tl := blk_lt T1
  clear bA b1 T1
  go_wp2_with fail
  refine (nil_load _).mono ?_
  rintro e w' ⟨rfl, rfl⟩
  go_wp2_with fail
  refine (nil_until n _).mono ?_
  rintro e w' ⟨rfl, rfl⟩
  go_wp2_with fail
  refine (nil_set i ⟨ev, lg, rk⟩ _).mono ?_
  rintro e w2 ⟨rfl, b2⟩
  have B2 := Lib.hid (B1.out.trans (((Below.refl w1.heap.size w1).alloc (Nat.le_refl _) (.cells #[.int .i64 0, .int .i64 0, .int .i64 0, .bool false] 42)).trans (b2.mono (by rw [al_size]; omega)) |>.mono B1.out.size))
  clear b2 t0 t1 t2 tl B1
  go_wp2_with fail
  refine (nil_now _).mono ?_
  rintro e w' ⟨rfl, rfl⟩
  go_wp2_with fail
  refine (wakes_walk _).mono ?_
  rintro e w3 ⟨rfl, b3⟩
  have B3 := Lib.hid (B2.out.trans (b3.mono B2.out.size))
  clear b3
  go_wp2_with fail
  go_ret
  exact ⟨rfl, B3.out⟩
end Go.Proofs.Ytgdkmakmdomdbaa
