import Derived.Test.YthdpkmdkoldneaaNsS5
set_option autoImplicit false
set_option linter.unusedVariables false
namespace Go.Proofs.Ythdpkmdkoldneaa
open Go.RowKit Lk
theorem skip_nil' (n : Int) (w : World) : Calls Try.prog 10 #[.pointer none, .int .u64 n] w (fun e w' => e = .returned (.tuple #[]) ∧ w = w') := by
  go_enter Try.func10, Try.ntmps10
  go_wp2
  go_end0
  exact ⟨rfl, rfl⟩
theorem state_nil' (w : World) : Calls Try.prog 11 #[.pointer none] w (fun e w' => e = .returned (.int .u64 0) ∧ w = w') := by
  go_enter Try.func11, Try.ntmps11
  go_wp2
  go_ret
  exact ⟨rfl, rfl⟩
theorem bell_nil' (w : World) : Calls Try.prog 12 #[.pointer none] w (fun e w' => e = .returned (.float .f64 0) ∧ w = w') := by
  go_enter Try.func12, Try.ntmps12
  go_wp2
  go_ret
  exact ⟨rfl, rfl⟩
theorem pair_nil' (x : Nat) (w : World) : Calls Try.prog 18 #[.pointer none, .float .f64 x] w (fun e w' => e = .returned (.complex .f64 0 0) ∧ w = w') := by
  go_enter Try.func18, Try.ntmps18
  go_wp2
  go_ret
  exact ⟨rfl, rfl⟩
theorem row_nil' (n : Int) (x : Nat) (w : World) : Calls Try.prog 17 #[.pointer none, .int .i64 n, .float .f64 x] w (fun e w' => e = .returned (.slice none 0 0) ∧ w = w') := by
  go_enter Try.func17, Try.ntmps17
  go_wp2
  go_ret
  exact ⟨rfl, rfl⟩
structure Nv (w : World) (k N : Int) (p wd : Nat) (W : World) : Prop where
  o : W.heap[w.heap.size]? = some (.cells #[.int .i64 k, .int .i64 N, .int .u64 p, .float .f64 wd] 35 (0, 0))
  b : Below w.heap.size w W
theorem Nv.cell {w W : World} {k n : Int} {p wd : Nat} (h : Nv w k n p wd W) (i : Nat) : W.cell? ⟨w.heap.size, i, none⟩ = (#[Value.int .i64 k, .int .i64 n, .int .u64 p, .float .f64 wd] : Array Value)[i]? := cell_of_heap h.o i
theorem Nv.after {w W w' : World} {k n : Int} {p wd : Nat} (o : Below W.heap.size W w') (h : Nv w k n p wd W) : Nv w k n p wd w' :=
  ⟨(o.block _ (Array.getElem?_eq_some_iff.1 h.o).1).trans h.o, h.b.trans (o.mono h.b.size)⟩
theorem Nv.drew1 {w W : World} {k n : Int} {p wd : Nat} (h : Nv w k n p wd W) : Nv w k n p wd W.drew := ⟨h.o, h.b.drew⟩
theorem Nv.begin (w : World) (k n : Int) (p wd : Nat) : Nv w k n p wd (w.alloc (Obj.cells #[.int .i64 k, .int .i64 n, .int .u64 p, .float .f64 wd] 35)) :=
  ⟨(by show (w.heap.push _)[w.heap.size]? = _; simp), (Below.refl _ _).alloc (Nat.le_refl _) _⟩
def RSN (w : World) (e : Ending) (w' : World) : Prop := e = .returned (.bool true) ∧ Below w.heap.size w w'
set_option maxHeartbeats 8000000 in
theorem nil_next (n : Int) (p wd : Nat) (w : World) : Calls Try.prog 14 #[.pointer none, .pointer none, opv 0 n p wd] w (RSN w) := by
  have I := Nv.begin w 0 n p wd
  go_enter Try.func14, Try.ntmps14
  go_wp2_with (first | (go_at_call 9; refine (next_nil' _).mono ?_; rintro e w1 ⟨rfl, rfl⟩) | (go_at_call 23; refine (rnext_nil _).mono ?_; rintro e w2 ⟨rfl, rfl⟩))
  go_ret
  exact ⟨rfl, I.b⟩
set_option maxHeartbeats 8000000 in
theorem nil_float (n : Int) (p wd : Nat) (w : World) : Calls Try.prog 14 #[.pointer none, .pointer none, opv 1 n p wd] w (RSN w) := by
  have I := Nv.begin w 1 n p wd
  go_enter Try.func14, Try.ntmps14
  go_wp2_with fail
  refine (float_nil _).mono ?_; rintro e w1 ⟨rfl, rfl⟩
  go_wp2_with fail
  refine (rfloat_nil _).mono ?_; rintro e w2 ⟨rfl, b2⟩
  go_wp2_with fail
  refine (samefloat_walk _ _ _).mono ?_; rw [sameF_is (Is.refl _)]; rintro e w3 ⟨rfl, rfl⟩
  go_wp2_with fail
  go_ret
  exact ⟨rfl, (Nv.after b2 I).b⟩
set_option maxHeartbeats 8000000 in
theorem nil_bell (n : Int) (p wd : Nat) (w : World) : Calls Try.prog 14 #[.pointer none, .pointer none, opv 2 n p wd] w (RSN w) := by
  have I := Nv.begin w 2 n p wd
  go_enter Try.func14, Try.ntmps14
  go_wp2_with fail
  refine (bell_nil' _).mono ?_; rintro e w1 ⟨rfl, rfl⟩
  go_wp2_with fail
  refine (rbell_nil _).mono ?_; rintro e w2 ⟨rfl, rfl⟩
  go_wp2_with fail
  refine (samefloat_walk _ _ _).mono ?_; rw [sameF_is (Is.refl _)]; rintro e w3 ⟨rfl, rfl⟩
  go_wp2_with fail
  go_ret
  exact ⟨rfl, I.b⟩
set_option maxHeartbeats 8000000 in
theorem nil_pair (n : Int) (p wd : Nat) (w : World) : Calls Try.prog 14 #[.pointer none, .pointer none, opv 3 n p wd] w (RSN w) := by
  have I := Lib.hid (Nv.begin w 3 n p wd)
  go_enter Try.func14, Try.ntmps14
  go_wp2_with fail
  generalize hW : w.alloc (Obj.cells #[.int .i64 3, .int .i64 n, .int .u64 p, .float .f64 wd] 35) = W at *
  clear hW
  have I := Lib.hid I.out.drew1
  have cw : W.drew.cell? ⟨w.heap.size, 3, none⟩ = some (.float .f64 wd) := I.out.cell 3
  go_region_with (first | (go_at_call 18; refine (pair_nil' wd _).mono ?_; rintro e w1 ⟨rfl, rfl⟩) | (go_at_call 29; refine (rpair_nil wd _).mono ?_; rintro e w2 ⟨rfl, b2⟩; have I := Lib.hid (Nv.after b2 I.out); clear b2; have cw : World.cell? _ ⟨w.heap.size, 3, none⟩ = some (.float .f64 wd) := I.out.cell 3) | (go_at_call 28; refine (one_walk _ _ _).mono ?_; rintro e w3 ⟨rfl, b3⟩; have I := Lib.hid (Nv.after b3 I.out); clear b3; have cw : World.cell? _ ⟨w.heap.size, 3, none⟩ = some (.float .f64 wd) := I.out.cell 3) | (go_at_call 27; refine (same_walk _ _ _ _ _).mono ?_; rw [sameF_is (Is.refl _)]; rintro e w4 ⟨rfl, b4⟩; have I := Lib.hid (Nv.after b4 I.out); clear b4))
  all_goals
    go_wp2_with fail
    go_ret
    exact ⟨rfl, I.out.b⟩
set_option maxHeartbeats 8000000 in
theorem nil_row (n : Int) (p wd : Nat) (w : World) : Calls Try.prog 14 #[.pointer none, .pointer none, opv 4 n p wd] w (RSN w) := by
  have I := Lib.hid (Nv.begin w 4 n p wd)
  go_enter Try.func14, Try.ntmps14
  go_wp2_with fail
  refine (row_nil' n wd _).mono ?_; rintro e w1 ⟨rfl, rfl⟩
  go_wp2_with fail
  generalize hW : w.alloc (Obj.cells #[.int .i64 4, .int .i64 n, .int .u64 p, .float .f64 wd] 35) = W at *
  clear hW
  have I := Lib.hid I.out.drew1
  have cw : W.drew.cell? ⟨w.heap.size, 3, none⟩ = some (.float .f64 wd) := I.out.cell 3
  have cn : W.drew.cell? ⟨w.heap.size, 1, none⟩ = some (.int .i64 n) := I.out.cell 1
  go_region_with (first | (go_at_call 31; refine (of_nil _).mono ?_; rintro e w2 ⟨rfl, rfl⟩) | (go_at_call 32; refine (rrow_nil n wd _).mono ?_; rintro e w3 ⟨rfl, rfl⟩) | (go_at_call 30; refine (samelist_walk _ _ 0 (fun _ => (0, 0)) (fun _ => (0, 0)) _ (by decide) (.inl ⟨rfl, rfl⟩) (.inl ⟨rfl, rfl⟩) (fun j hj => absurd hj (Nat.not_lt_zero _))).mono ?_; rintro e w4 ⟨rfl, b4⟩; have I := Lib.hid (Nv.after b4 I.out); clear b4))
  all_goals
    go_wp2_with fail
    go_loopw [64] (fun i wr => i = .int .i64 0 ∧ Nv w 4 n p wd wr) (fun _ _ => 0)
    case atStart => exact ⟨rfl, I.out⟩
    case round =>
      obtain ⟨rfl, hI⟩ := hrel
      clear cw cn
      go_wp2_with fail
      go_ret
      exact ⟨rfl, hI.b⟩
set_option maxHeartbeats 8000000 in
theorem nil_skip (n : Int) (p wd : Nat) (w : World) : Calls Try.prog 14 #[.pointer none, .pointer none, opv 5 n p wd] w (RSN w) := by
  have I := Nv.begin w 5 n p wd
  go_enter Try.func14, Try.ntmps14
  go_wp2_with (first | (go_at_call 10; refine (skip_nil' p _).mono ?_; rintro e w1 ⟨rfl, rfl⟩) | (go_at_call 33; refine (rskip_nil p _).mono ?_; rintro e w2 ⟨rfl, rfl⟩) | (go_at_call 11; refine (state_nil' _).mono ?_; rintro e w1 ⟨rfl, rfl⟩) | (go_at_call 15; refine (rstate_nil _).mono ?_; rintro e w2 ⟨rfl, rfl⟩))
  go_ret
  exact ⟨rfl, I.b⟩
set_option maxHeartbeats 8000000 in
theorem nil_state (k n : Int) (p wd : Nat) (w : World) (hk : ¬ (0 ≤ k ∧ k ≤ 5)) : Calls Try.prog 14 #[.pointer none, .pointer none, opv k n p wd] w (RSN w) := by
  have I := Nv.begin w k n p wd
  have n0 : ¬ k = 0 := by omega
  have n1 : ¬ k = 1 := by omega
  have n2 : ¬ k = 2 := by omega
  have n3 : ¬ k = 3 := by omega
  have n4 : ¬ k = 4 := by omega
  have n5 : ¬ k = 5 := by omega
  clear hk
  go_enter Try.func14, Try.ntmps14
  go_wp2_with (first | (go_at_call 11; refine (state_nil' _).mono ?_; rintro e w1 ⟨rfl, rfl⟩) | (go_at_call 15; refine (rstate_nil _).mono ?_; rintro e w2 ⟨rfl, rfl⟩))
  go_ret
  exact ⟨rfl, I.b⟩
theorem nil_walk (k n : Int) (p wd : Nat) (w : World) : Calls Try.prog 14 #[.pointer none, .pointer none, opv k n p wd] w (RSN w) := by
  by_cases h0 : k = 0
  · subst h0; exact nil_next n p wd w
  by_cases h1 : k = 1
  · subst h1; exact nil_float n p wd w
  by_cases h2 : k = 2
  · subst h2; exact nil_bell n p wd w
  by_cases h3 : k = 3
  · subst h3; exact nil_pair n p wd w
  by_cases h4 : k = 4
  · subst h4; exact nil_row n p wd w
  by_cases h5 : k = 5
  · subst h5; exact nil_skip n p wd w
  exact nil_state k n p wd w (by omega)
end Go.Proofs.Ythdpkmdkoldneaa
