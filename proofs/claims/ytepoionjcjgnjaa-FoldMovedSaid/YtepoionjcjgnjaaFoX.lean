import Derived.Test.YtepoionjcjgnjaaFoB
import Derived.Test.YtepoionjcjgnjaaFoJW
import Derived.Test.YtepoionjcjgnjaaFoT
import Derived.Deep.QuietTactic
set_option autoImplicit false
set_option linter.unusedVariables false
namespace Go.Proofs.Ytepoionjcjgnjaa
open Go.RowKit Lk Fo
set_option maxHeartbeats 4000000 in
theorem gcd_walk (a b : Int) (w : World) (a1 : -9223372036854775808 ≤ a) (a2 : a ≤ 9223372036854775807) (b1 : -9223372036854775808 ≤ b) (b2 : b ≤ 9223372036854775807) : Calls Try.prog 10 #[.int .i64 a, .int .i64 b] w
    (fun e w' => e = .returned (.tuple #[.int .i64 (gcdW a b).1.g, .int .i64 (gcdW a b).1.x, .int .i64 (gcdW a b).1.y, .int .i64 (gcdW a b).2]) ∧ Below w.heap.size w w') := by
  by_cases hbad : a < 0 ∨ b < 0 ∨ 1099511627776 < a ∨ 1099511627776 < b
  · have E : Hid (gcdW a b = (⟨0, 0, 0⟩, 2)) := Lib.hid (by unfold gcdW; rw [if_pos hbad])
    have hb' := Lib.hid hbad
    clear hbad
    by_cases c0 : b < a <;> by_cases c1 : a < 0 <;> by_cases c2 : b < 0 <;> by_cases c3 : 1099511627776 < a <;> by_cases c4 : 1099511627776 < b
    all_goals first
      | (exfalso; have := hb'.out; omega)
      | (have n1 : (if b < a then b else a) = min a b := min_form
         have n2 : (if a < b then b else a) = max a b := max_form
         have n3 : (min a b < 0) = (a < 0 ∨ b < 0) := by rw [eq_iff_iff]; omega
         have n4 : (1099511627776 < max a b) = (1099511627776 < a ∨ 1099511627776 < b) := by rw [eq_iff_iff]; omega
         go_enter Try.func10, Try.ntmps10
         go_wp2_with fail
         refine bodyPost_ret (v := ?_) ?_ rfl ?_
         rotate_left
         · simp [results, Try.results10, go_sem]; rfl
         · exact ⟨ret4' E.out, Below.refl _ _⟩)
  · have E : Hid (gcdW a b = (gcdR a b, 0)) := Lib.hid (by unfold gcdW; rw [if_neg hbad])
    have c1 : ¬ a < 0 := by omega
    have c2 : ¬ b < 0 := by omega
    have c3 : ¬ 1099511627776 < a := by omega
    have c4 : ¬ 1099511627776 < b := by omega
    have n1 : (if b < a then b else a) = min a b := min_form
    have n2 : (if a < b then b else a) = max a b := max_form
    have n3 : ¬ min a b < 0 := by omega
    have n4 : ¬ 1099511627776 < max a b := by omega
    clear hbad
    go_enter Try.func10, Try.ntmps10
    go_wp2_with fail
    refine (euclid_walk a b w (by omega) (by omega) (by omega) (by omega)).mono ?_; rintro e w1 ⟨rfl, bb⟩
    clear n1 n2 n3 n4
    go_wp2_with (refine wpList_store_new rfl (ty := 42) (x := .tmp 8) (y := .tmp 21) rfl (g := w1.heap.size) rfl rfl (t := 42) (old := rowA ⟨0, 0, 0⟩) (by rw [al, if_pos rfl]; rfl) (by kernel_rfl) rfl (by simp [Value.oneCell', rowA]) (B := w1.heap.size) (w0 := w1) (by (repeat' (first | exact Below.refl _ _ | refine below_drewN ?_ _ | refine Below.setCell ?_ (by first | exact Nat.le_refl _ | (simp; done) | (simp; omega)) _ | refine Below.alloc ?_ (by first | exact Nat.le_refl _ | (simp; done) | (simp; omega)) _))) (Nat.le_refl _) ?_; intro w4 hg4 hb4 hz4 ho4; obtain ⟨p0, p1, p2⟩ := BlE.cells (show BlE w4 w1.heap.size (gcdR a b) from hg4); have HB4 := Lib.hid (bb.trans (hb4.mono bb.size)); clear hg4 hb4 hz4 ho4 bb)
    go_quiet (fail)
    go_wp2_with fail
    refine bodyPost_ret (v := ?_) ?_ rfl ?_
    rotate_left
    · simp [results, Try.results10, go_sem]; rfl
    · exact ⟨ret4' E.out, by first | exact HB4.out | exact below_drewN HB4.out _⟩
theorem rgcdW_walk (a b : Int) (w : World) : Calls Try.prog 11 #[.int .i64 a, .int .i64 b] w
    (fun e w' => e = .returned (.tuple #[.int .i64 (gcdW a b).1.g, .int .i64 (gcdW a b).1.x, .int .i64 (gcdW a b).1.y, .int .i64 (gcdW a b).2]) ∧ w = w') := by
  refine (rgcdL_walk a b w).mono ?_; rintro e w' ⟨rfl, rfl⟩
  refine ⟨?_, rfl⟩
  unfold gcdW
  split <;> rfl
theorem sl_block {w : World} {g n : Nat} {l : List Int} (h : w.heap[g]? = some (.cells (ints l).toArray 2 (0, 0))) (hn : l.length = n) (hs : n ≤ 1000) (hr : ∀ x ∈ l, -9223372036854775808 ≤ x ∧ x ≤ 9223372036854775807) : Sl w (some ⟨g, 0, none⟩) n n l :=
  ⟨hn, Nat.le_refl _, by omega, hr, .inr ⟨g, 0, rfl, (Array.getElem?_eq_some_iff.1 h).1, fun j hj => by rw [cell_of_heap h, Nat.zero_add]; simp [ints, hj]⟩⟩
set_option maxRecDepth 100000 in
set_option maxHeartbeats 4000000 in
theorem wakes_walk (w : World) : Calls Try.prog 12 #[] w (fun e w' => e = .returned (.bool true) ∧ Below w.heap.size w w') := by
  have J : Hid (joinW [2, 3, 2] [3, 5, 7] = (23, 105, 0)) := Lib.hid (by decide +kernel)
  have G : Hid (gcdW 12 18 = (⟨6, -1, 1⟩, 0)) := Lib.hid (by unfold gcdW; rw [if_neg (by decide)]; exact congrArg (·, (0 : Int)) (show gcdR 12 18 = ⟨6, -1, 1⟩ by kernel_rfl))
  have N : Hid (nearW [2, 3] [5, 7] 0 40 = ([17], 0)) := Lib.hid (by decide +kernel)
  have B : Hid (bestW [2, 3] [5, 7] 12 = (2, 1, 0)) := Lib.hid (by decide +kernel)
  go_enter Try.func12, Try.ntmps12
  go_wp2_with fail
  refine (join_walk 4294967296 divOk_small (by omega) _ _ 3 3 3 3 [2, 3, 2] [3, 5, 7] _ (sl_block (by rw [al, if_neg (by simp), al, if_pos rfl]; rfl) rfl (by omega) (by simp)) (sl_block (by rw [al, if_pos (by simp)]; rfl) rfl (by omega) (by simp)) (by simp)).mono ?_; rintro e w1 ⟨rfl, b1⟩
  rw [J.out]
  have B1 : Hid (Below w.heap.size w w1) := Lib.hid (Below.trans (by (repeat' (first | exact Below.refl _ _ | refine below_drewN ?_ _ | refine Below.setCell ?_ (by first | exact Nat.le_refl _ | (simp; done) | (simp; omega)) _ | refine Below.alloc ?_ (by first | exact Nat.le_refl _ | (simp; done) | (simp; omega)) _))) (b1.mono (by simp; omega)))
  clear b1
  go_wp2_with fail
  refine (gcd_walk 12 18 _ (by omega) (by omega) (by omega) (by omega)).mono ?_; rintro e w2 ⟨rfl, b2⟩
  rw [G.out]
  have B2 := Lib.hid (B1.out.trans (b2.mono B1.out.size))
  clear b2 B1
  go_wp2_with fail
  refine (near_walk _ _ 2 2 2 2 [2, 3] [5, 7] 0 40 _ (sl_block (by rw [al, if_neg (by simp), al, if_pos rfl]; rfl) rfl (by omega) (by simp)) (sl_block (by rw [al, if_pos (by simp)]; rfl) rfl (by omega) (by simp)) (by omega) (by omega) (by omega) (by omega)).mono ?_; rintro e w3 ⟨v, rfl, ho, b3⟩
  rw [N.out] at ho ⊢
  have B3 : Hid (Below w.heap.size w w3) := Lib.hid (B2.out.trans (Below.trans (b := w2) (Below.refl _ _) ((Below.trans (by (repeat' (first | exact Below.refl _ _ | refine below_drewN ?_ _ | refine Below.setCell ?_ (by first | exact Nat.le_refl _ | (simp; done) | (simp; omega)) _ | refine Below.alloc ?_ (by first | exact Nat.le_refl _ | (simp; done) | (simp; omega)) _))) (b3.mono (by simp; omega)) : Below w2.heap.size w2 w3).mono B2.out.size)))
  clear b3 B2
  obtain ⟨g, cap, rfl, hg, hc⟩ : ∃ g cap, v = .slice (some ⟨g, 0, none⟩) 1 cap ∧ g < w3.heap.size ∧ w3.cell? ⟨g, 0, none⟩ = some (.int .i64 17) := by
    have ho' := ho
    rcases ho.2 with ⟨_, h⟩ | ⟨g, cap, cur, rfl, _, hg, _⟩
    · exact absurd h (by decide)
    · exact ⟨g, cap, rfl, (Array.getElem?_eq_some_iff.1 hg).1, ho'.cellAt 0 (by decide)⟩
  clear ho
  go_wp2_with fail
  refine (best_walk _ _ 2 2 2 2 [2, 3] [5, 7] 12 _ (sl_block (by rw [al, if_neg (by simp), al, if_pos rfl]; rfl) rfl (by omega) (by simp)) (sl_block (by rw [al, if_pos (by simp)]; rfl) rfl (by omega) (by simp)) (by omega) (by omega)).mono ?_; rintro e w4 ⟨rfl, b4⟩
  rw [B.out]
  have b5 : Below w3.heap.size w3 w4 := Below.trans (by (repeat' (first | exact Below.refl _ _ | refine below_drewN ?_ _ | refine Below.setCell ?_ (by first | exact Nat.le_refl _ | (simp; done) | (simp; omega)) _ | refine Below.alloc ?_ (by first | exact Nat.le_refl _ | (simp; done) | (simp; omega)) _))) (b4.mono (by simp; omega))
  have hc4 := (b5.cell (p := ⟨g, 0, none⟩) hg).trans hc
  have B4 := Lib.hid (B3.out.trans (b5.mono B3.out.size))
  clear b4 b5 B3 hc
  go_wp2_with fail
  go_ret
  exact ⟨rfl, B4.out⟩
end Go.Proofs.Ytepoionjcjgnjaa
