import Derived.Test.YthdpkmdkoldneaaNsV
import Derived.Test.YthdpkmdkoldneaaFlG
set_option autoImplicit false
set_option linter.unusedVariables false
namespace Go.Proofs.Ythdpkmdkoldneaa
open Go.RowKit Lk
def sameF (x y : Nat) : Bool := decide ((Nan x ∧ Nan y) ∨ (¬ Nan x ∧ ¬ Nan y ∧ x = y))
theorem sameF_is {x y : Nat} (h : Is x y) : sameF x y = true := by
  unfold sameF; rw [decide_eq_true_eq]
  rcases h with h | ⟨rfl, h⟩
  · exact .inl h
  · exact .inr ⟨h, h, rfl⟩
theorem eq_self' (x : Nat) : (FloatKind.f64.format.order x x == some Ordering.eq) = decide (¬ Nan x) := by
  rw [fmt64, Bool.eq_iff_iff, beq_iff_eq, o_self]; simp
theorem ne_self' (x : Nat) : (FloatKind.f64.format.order x x != some Ordering.eq) = decide (Nan x) := by
  rw [fmt64, Bool.eq_iff_iff, bne_iff_ne, ne_eq, o_self]; simp
theorem ret_bool' {a b : Bool} (h : a = b) : Ending.returned (.bool a) = .returned (.bool b) := by rw [h]
theorem samefloat_walk (x y : Nat) (w : World) : Calls Try.prog 24 #[.float .f64 x, .float .f64 y] w (fun e w' => e = .returned (.bool (sameF x y)) ∧ w = w') := by
  have h1 := ne_self' x
  have h2 := ne_self' y
  have h1' := eq_self' x
  have h2' := eq_self' y
  have H : Hid (sameF x y = decide ((Nan x ∧ Nan y) ∨ (¬ Nan x ∧ ¬ Nan y ∧ x = y))) := rfl
  by_cases c1 : Nan x <;> by_cases c2 : Nan y <;> simp only [c1, c2, decide_true, decide_false, not_true_eq_false, not_false_eq_true] at h1 h2 h1' h2' <;> have K1 := Lib.hid c1 <;> have K2 := Lib.hid c2 <;> clear c1 c2
  all_goals
    go_enter Try.func24, Try.ntmps24
    go_wp2
    go_ret
    refine ⟨ret_bool' ?_, rfl⟩
    rw [H.out]
    have k1 := K1.out
    have k2 := K2.out
    first | (simp [k1, k2]; done) | (simp only [k1, k2, and_false, false_or, not_false_eq_true, true_and]; show ((x : Int) == (y : Int)) = decide (x = y); rw [Bool.eq_iff_iff, beq_iff_eq, decide_eq_true_eq]; omega)
theorem same_walk (x y x' y' : Nat) (w : World) : Calls Try.prog 27 #[.agg #[.float .f64 x, .float .f64 y], .agg #[.float .f64 x', .float .f64 y']] w (fun e w' => e = .returned (.bool (sameF x x' && sameF y y')) ∧ Below w.heap.size w w') := by
  cases h : sameF x x'
  · go_enter Try.func27, Try.ntmps27
    go_wp2_with (go_at_call 24; refine (samefloat_walk _ _ _).mono ?_; rw [h]; rintro e w1 ⟨rfl, rfl⟩)
    go_ret
    exact ⟨rfl, by (repeat' (first | exact Below.refl _ _ | refine below_drewN ?_ _ | refine Below.setCell ?_ (by first | exact Nat.le_refl _ | (simp; done) | (simp; omega)) _ | refine Below.alloc ?_ (by first | exact Nat.le_refl _ | (simp; done) | (simp; omega)) _))⟩
  · go_enter Try.func27, Try.ntmps27
    go_wp2_with fail
    refine (samefloat_walk _ _ _).mono ?_; rw [h]; rintro e w1 ⟨rfl, rfl⟩
    go_wp2_with fail
    refine (samefloat_walk _ _ _).mono ?_; rintro e w2 ⟨rfl, rfl⟩
    go_wp2_with fail
    go_ret
    exact ⟨rfl, by (repeat' (first | exact Below.refl _ _ | refine below_drewN ?_ _ | refine Below.setCell ?_ (by first | exact Nat.le_refl _ | (simp; done) | (simp; omega)) _ | refine Below.alloc ?_ (by first | exact Nat.le_refl _ | (simp; done) | (simp; omega)) _))⟩
theorem one_walk (x y : Nat) (w : World) : Calls Try.prog 28 #[.complex .f64 x y] w (fun e w' => e = .returned (.agg #[.float .f64 x, .float .f64 y]) ∧ Below w.heap.size w w') := by
  go_enter Try.func28, Try.ntmps28
  go_wp2
  refine bodyPost_ret (v := ?_) ?_ rfl ?_
  rotate_left
  · simp [results, Try.results28, go_sem]; rfl
  · exact ⟨rfl, by (repeat' (first | exact Below.refl _ _ | refine below_drewN ?_ _ | refine Below.setCell ?_ (by first | exact Nat.le_refl _ | (simp; done) | (simp; omega)) _ | refine Below.alloc ?_ (by first | exact Nat.le_refl _ | (simp; done) | (simp; omega)) _))⟩
theorem rpair_nil (wd : Nat) (w : World) : Calls Try.prog 29 #[.pointer none, .float .f64 wd] w (fun e w' => e = .returned (.agg #[.float .f64 0, .float .f64 0]) ∧ Below w.heap.size w w') := by
  go_enter Try.func29, Try.ntmps29
  go_wp2
  refine bodyPost_ret (v := ?_) ?_ rfl ?_
  rotate_left
  · simp [results, Try.results29, go_sem]; rfl
  · exact ⟨rfl, by (repeat' (first | exact Below.refl _ _ | refine below_drewN ?_ _ | refine Below.setCell ?_ (by first | exact Nat.le_refl _ | (simp; done) | (simp; omega)) _ | refine Below.alloc ?_ (by first | exact Nat.le_refl _ | (simp; done) | (simp; omega)) _))⟩
theorem rpair_walk (s b wd : Nat) (w : World) (hs : s < 2 ^ 64) (hb : BlR w b s) : Calls Try.prog 29 #[.pointer (some ⟨b, 0, none⟩), .float .f64 wd] w
    (fun e w' => ∃ x y, e = .returned (.agg #[.float .f64 x, .float .f64 y]) ∧ Is x (pr1 s wd) ∧ Is y (pr2 s wd) ∧ BlR w' b (skp s 24) ∧ One b w w') := by
  have hlt := hb.lt
  go_enter Try.func29, Try.ntmps29
  go_wp2_with fail
  have hg0 : (w.alloc (Obj.cells #[Value.float FloatKind.f64 0, Value.float FloatKind.f64 0] 54)).heap[w.heap.size]? = some (.cells #[Value.float FloatKind.f64 0, Value.float FloatKind.f64 0] 54 (0, 0)) := by
    show (w.heap.push _)[w.heap.size]? = _; simp
  have hb0 : BlR (w.alloc (Obj.cells #[Value.float FloatKind.f64 0, Value.float FloatKind.f64 0] 54)) b s := hb.stay ((Below.refl _ _).alloc (Nat.le_refl _) _)
  refine (rbell_walk s b _ hs hb0).mono ?_; rintro e w1 ⟨rfl, h1, o1⟩
  go_wp2_with fail
  refine (rbell_walk (skp s 12) b _ (skp_lt' _ _) h1).mono ?_; rintro e w2 ⟨rfl, h2, o2⟩
  have hsz : (w.alloc (Obj.cells #[Value.float FloatKind.f64 0, Value.float FloatKind.f64 0] 54)).heap.size = w.heap.size + 1 := by simp
  have o3 := o1.trans o2
  have hg2 := (o3.block w.heap.size (by omega) (by omega)).trans hg0
  have oo : One b w w2 := (One.new w _).trans o3
  clear o1 o2 o3 h1 hb0 hg0 hb
  go_wp2_with (first | ((with_reducible refine wpList_float (x := ?_) (y := ?_) (X := ?_) (Y := ?_) rfl rfl ?_ ?_ ?_ ?_ ?_ ?_); (· rfl); (rotate_left 4); (· rfl); (· rfl); (· first | assumption | exact Is.refl _); (· first | assumption | exact Is.refl _); intro v n hv hl) | (refine wpList_store_new rfl (ty := 54) (x := .tmp 4) (y := .tmp 20) rfl (g := w.heap.size) rfl rfl hg2 (by kernel_rfl) rfl (by simp [Value.oneCell']) (Below.refl _ _) (Nat.le_refl _) ?_; intro w4 hg4 hb4 hz4 ho4))
  rename_i X1 N1 hX1 hL1
  have e0 : w4.cell? ⟨w.heap.size, 0, none⟩ = some (.float .f64 X1) := cell_of_heap hg4 0
  have e1 : w4.cell? ⟨w.heap.size, 1, none⟩ = some (.float .f64 v) := cell_of_heap hg4 1
  have hB : BlR w4 b (skp s 24) := by
    rw [skp_skp] at h2
    exact (ho4 b (by omega)).trans h2
  have hO : One b w w4 := ⟨hb4.os.trans oo.os, hb4.tape.trans oo.tape, hb4.output.trans oo.output, by rw [hz4]; exact oo.size, fun k hk hn => (hb4.block k hk).trans (oo.block k hk hn)⟩
  refine bodyPost_ret (v := ?_) ?_ rfl ?_
  rotate_left
  · simp [results, Try.results29, go_sem, e0, e1]; rfl
  · exact ⟨X1, v, rfl, hX1, hv, hB, hO⟩
end Go.Proofs.Ythdpkmdkoldneaa
