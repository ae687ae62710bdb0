import Derived.Test.YtdngkeefbpffcaaPlS
set_option autoImplicit false
set_option linter.unusedVariables false
namespace Go.Proofs.Ytdngkeefbpffcaa
open Go.RowKit Lk Pl
set_option maxHeartbeats 4000000 in
theorem rone_walk (c v r : Nat) (e n : Int) (bin gate pow time : Nat) (sp : Int) (w : World) (h1 : -9223372036854775808 ≤ e) (h2 : e ≤ 9223372036854775807) (h3 : -9223372036854775808 ≤ n) (h4 : n ≤ 9223372036854775807)
    (hb : bin < 2 ^ 64) (hg : gate < 2 ^ 64) (hp : pow < 2 ^ 64) (ht : time < 2 ^ 64) :
    Calls Try.prog 11 #[btv c v r e n, .agg #[.float .f64 bin, .float .f64 gate, .float .f64 pow, .int .i64 sp], .float .f64 time] w (OneP c v r e n bin gate pow time w) := by
  have E0 : oneE c v r e n bin gate pow time = if chk c v r e n ≠ 0 then chk c v r e n else if fin4 bin gate pow time = false then 6 else (spd c v r e n bin).2 := rfl
  have HL := Lib.hid (show ∀ x ∈ [bin, gate, pow, time], x < 2 ^ 64 by
    intro x hx
    simp only [List.mem_cons, List.not_mem_nil, or_false] at hx
    rcases hx with rfl | rfl | rfl | rfl <;> assumption)
  have CK := Lib.hid (fun w => rcheck_walk c v r e n w h1 h2 h3 h4)
  have SP := Lib.hid (fun w => rspeed_walk c v r e n bin w h1 h2 h3 h4)
  have OO := Lib.hid (show oneO c v r e n bin gate pow time = if oneE c v r e n bin gate pow time ≠ 0 then ⟨0, 0, 0, 0, 0⟩ else ⟨fmul (fadd gate 4602678819172646912) c, (spd c v r e n bin).1, pow, 0, time⟩ from rfl)
  obtain ⟨K, hK⟩ : ∃ K, K = chk c v r e n := ⟨_, rfl⟩
  obtain ⟨S, hS⟩ : ∃ S, S = spd c v r e n bin := ⟨_, rfl⟩
  rw [← hK] at CK E0
  rw [← hS] at SP E0 OO
  obtain ⟨sv, se⟩ := S
  clear hK hS hb hg hp ht
  go_enter Try.func11, Try.ntmps11
  go_upto_region 1 with fail
  refine wp_forget (OW w c v r e n bin gate pow sp) (OW.start w c v r e n bin gate pow sp) ?_
  intro w1 g1
  have G1 := Lib.hid g1
  obtain ⟨b0, b1, b2, b3, b4⟩ : w1.cell? ⟨w.heap.size, 0, none⟩ = _ ∧ w1.cell? ⟨w.heap.size, 1, none⟩ = _ ∧ w1.cell? ⟨w.heap.size, 2, none⟩ = _ ∧ w1.cell? ⟨w.heap.size, 3, none⟩ = _ ∧ w1.cell? ⟨w.heap.size, 4, none⟩ = _ := ⟨cell_of_heap g1.bb 0, cell_of_heap g1.bb 1, cell_of_heap g1.bb 2, cell_of_heap g1.bb 3, cell_of_heap g1.bb 4⟩
  simp only [List.getElem?_toArray, List.getElem?_cons_zero, List.getElem?_cons_succ] at b0 b1 b2 b3 b4
  have lb := (Array.getElem?_eq_some_iff.1 g1.bb).1
  clear g1
  go_wp2_with fail
  refine (CK.out _).mono ?_
  rintro e' w2 ⟨rfl, hb⟩
  have G2 := Lib.hid (G1.out.keep hb)
  clear hb b0 b1 b2 b3 b4 lb G1
  have lr := (Array.getElem?_eq_some_iff.1 G2.out.br).1
  by_cases hk : K = 0
  · subst hk
    rw [if_neg (by simp)] at E0
    have c0 := cell_of_heap G2.out.bc 0
    have c1 := cell_of_heap G2.out.bc 1
    have c2 := cell_of_heap G2.out.bc 2
    simp only [List.getElem?_toArray, List.getElem?_cons_zero, List.getElem?_cons_succ] at c0 c1 c2
    have lc := (Array.getElem?_eq_some_iff.1 G2.out.bc).1
    have FE : fin4 bin gate pow time = (decide (Lk.Fin bin) && (decide (Lk.Fin gate) && (decide (Lk.Fin pow) && decide (Lk.Fin time)))) := by unfold fin4; simp [List.all_cons]
    cases hf : fin4 bin gate pow time with
    | false =>
      rw [if_pos hf] at E0
      have E := Lib.hid E0
      rw [hf] at FE
      have Q : decide (Lk.Fin bin) = false ∨ (decide (Lk.Fin bin) = true ∧ (decide (Lk.Fin gate) = false ∨ (decide (Lk.Fin gate) = true ∧ (decide (Lk.Fin pow) = false ∨ (decide (Lk.Fin pow) = true ∧ decide (Lk.Fin time) = false))))) := by
        clear E0 E
        generalize decide (Lk.Fin bin) = b0 at FE ⊢
        generalize decide (Lk.Fin gate) = b1 at FE ⊢
        generalize decide (Lk.Fin pow) = b2 at FE ⊢
        generalize decide (Lk.Fin time) = b3 at FE ⊢
        revert FE
        cases b0 <;> cases b1 <;> cases b2 <;> cases b3 <;> decide
      have IF := Lib.hid isfin_walk
      clear E0 hf FE
      rcases Q with q0 | ⟨q0, q1 | ⟨q1, q2 | ⟨q2, q3⟩⟩⟩
      all_goals
        have br : w2.heap[w.heap.size + 1 + 1]? = some (.cells #[.float .f64 0, .float .f64 0, .float .f64 0, .float .f64 0, .float .f64 0] 28 (0, 0)) := G2.out.br
        have HBZ := Lib.hid G2.out.hb
        go_wp2_with (first | (go_at_call 32; refine (isfin_walk _ _).mono ?_; rintro e' wz ⟨rfl, rfl⟩) | (first | ((with_reducible refine wpList_float (o := ⟨some 59, _, _, _, _, _⟩) (x := ?_) (y := ?_) (X := ?_) (Y := ?_) rfl rfl ?_ ?_ ?_ ?_ ?_ ?_); (· rfl); (rotate_left 4); (· rfl); (· rfl); (· first | assumption | exact Is.refl _); (· first | assumption | exact Is.refl _); intro x59 n59 h59 l59) | ((with_reducible refine wpList_float (o := ⟨some 62, _, _, _, _, _⟩) (x := ?_) (y := ?_) (X := ?_) (Y := ?_) rfl rfl ?_ ?_ ?_ ?_ ?_ ?_); (· rfl); (rotate_left 4); (· rfl); (· rfl); (· first | assumption | exact Is.refl _); (· first | assumption | exact Is.refl _); intro x62 n62 h62 l62)) | (refine wpList_store_at rfl rfl (g := w.heap.size + 1 + 1) (j := 0) rfl rfl br (by kernel_rfl) (Nat.le_of_ble_eq_true rfl) (one_pt _ _ _ _ _) ?_; intro w9 b9 o9; rw [putAll_full (by rfl)] at b9; have HB9 : Hid (Below w.heap.size w w9) := Lib.hid (by first | exact HBZ.out.trans (o9.below (by omega)) | exact (below_drewN HBZ.out _).trans (o9.below (by omega))); obtain ⟨r0, r1, r2, r3, r4⟩ := pt_cells b9; clear b9 o9 br))
        refine bodyPost_ret (v := ?_) ?_ rfl ?_
        rotate_left
        · simp [results, Try.results11, go_sem, r0, r1, r2, r3, r4]; rfl
        · exact oneP_no E.out (by decide) HB9.out
    | true =>
      rw [if_neg (by rw [hf]; decide)] at E0
      have b0 := cell_of_heap G2.out.bb 0
      have b1 := cell_of_heap G2.out.bb 1
      have b2 := cell_of_heap G2.out.bb 2
      have b3 := cell_of_heap G2.out.bb 3
      have b4 := cell_of_heap G2.out.bb 4
      simp only [List.getElem?_toArray, List.getElem?_cons_zero, List.getElem?_cons_succ] at b0 b1 b2 b3 b4
      have lb := (Array.getElem?_eq_some_iff.1 G2.out.bb).1
      rw [hf] at FE
      have q0 : decide (Lk.Fin bin) = true := by cases h : decide (Lk.Fin bin) <;> simp [h] at FE ⊢
      have q1 : decide (Lk.Fin gate) = true := by cases h : decide (Lk.Fin gate) <;> simp [h] at FE ⊢
      have q2 : decide (Lk.Fin pow) = true := by cases h : decide (Lk.Fin pow) <;> simp [h] at FE ⊢
      have q3 : decide (Lk.Fin time) = true := by cases h : decide (Lk.Fin time) <;> simp [h] at FE ⊢
      clear hf FE
      go_wp2_with (go_at_call 32; refine (isfin_walk _ _).mono ?_; rintro e' wz ⟨rfl, rfl⟩)
      refine (SP.out _).mono ?_
      rintro e' w4 ⟨rfl, hb⟩
      have G4 := Lib.hid (G2.out.keep hb)
      clear hb b0 b1 b2 b3 b4 c0 c1 c2 q0 q1 q2 q3 lb lc lr G2
      have lr := (Array.getElem?_eq_some_iff.1 G4.out.br).1
      by_cases hs : se = 0
      · subst hs
        have E := Lib.hid E0
        have b0 := cell_of_heap G4.out.bb 0
        have c1 := cell_of_heap G4.out.bc 1
        have c2 := cell_of_heap G4.out.bc 2
        simp only [List.getElem?_toArray, List.getElem?_cons_zero, List.getElem?_cons_succ] at c1 c2 b0
        have lb := (Array.getElem?_eq_some_iff.1 G4.out.bb).1
        have lc := (Array.getElem?_eq_some_iff.1 G4.out.bc).1
        clear E0
        have br : w4.heap[w.heap.size + 1 + 1]? = some (.cells #[.float .f64 0, .float .f64 0, .float .f64 0, .float .f64 0, .float .f64 0] 28 (0, 0)) := G4.out.br
        have HBZ := Lib.hid G4.out.hb
        go_wp2_with (first | (first | ((with_reducible refine wpList_float (o := ⟨some 59, _, _, _, _, _⟩) (x := ?_) (y := ?_) (X := ?_) (Y := ?_) rfl rfl ?_ ?_ ?_ ?_ ?_ ?_); (· rfl); (rotate_left 4); (· rfl); (· rfl); (· first | assumption | exact Is.refl _); (· first | assumption | exact Is.refl _); intro x59 n59 h59 l59) | ((with_reducible refine wpList_float (o := ⟨some 62, _, _, _, _, _⟩) (x := ?_) (y := ?_) (X := ?_) (Y := ?_) rfl rfl ?_ ?_ ?_ ?_ ?_ ?_); (· rfl); (rotate_left 4); (· rfl); (· rfl); (· first | assumption | exact Is.refl _); (· first | assumption | exact Is.refl _); intro x62 n62 h62 l62)) | (refine wpList_store_at rfl rfl (g := w.heap.size + 1 + 1) (j := 0) rfl rfl br (by kernel_rfl) (Nat.le_of_ble_eq_true rfl) (one_pt _ _ _ _ _) ?_; intro w9 b9 o9; rw [putAll_full (by rfl)] at b9; have HB9 : Hid (Below w.heap.size w w9) := Lib.hid (by first | exact HBZ.out.trans (o9.below (by omega)) | exact (below_drewN HBZ.out _).trans (o9.below (by omega))); obtain ⟨r0, r1, r2, r3, r4⟩ := pt_cells b9; clear b9 o9 br))
        refine bodyPost_ret (v := ?_) ?_ rfl ?_
        rotate_left
        · simp [results, Try.results11, go_sem, r0, r1, r2, r3, r4]; rfl
        · exact ⟨⟨x62, sv, pow, 0, time⟩, by rw [E.out], ⟨by rw [OO.out, if_neg (by rw [E.out]; simp)]; exact h62, l62, fun x => by rw [OO.out, if_neg (by rw [E.out]; simp)]⟩, HB9.out⟩
      · have E := Lib.hid E0
        have kb : (se != 0) = true := by rw [bne_iff_ne]; exact hs
        have HS := Lib.hid hs
        clear E0 hs
        have br : w4.heap[w.heap.size + 1 + 1]? = some (.cells #[.float .f64 0, .float .f64 0, .float .f64 0, .float .f64 0, .float .f64 0] 28 (0, 0)) := G4.out.br
        have HBZ := Lib.hid G4.out.hb
        go_wp2_with (first | (first | ((with_reducible refine wpList_float (o := ⟨some 59, _, _, _, _, _⟩) (x := ?_) (y := ?_) (X := ?_) (Y := ?_) rfl rfl ?_ ?_ ?_ ?_ ?_ ?_); (· rfl); (rotate_left 4); (· rfl); (· rfl); (· first | assumption | exact Is.refl _); (· first | assumption | exact Is.refl _); intro x59 n59 h59 l59) | ((with_reducible refine wpList_float (o := ⟨some 62, _, _, _, _, _⟩) (x := ?_) (y := ?_) (X := ?_) (Y := ?_) rfl rfl ?_ ?_ ?_ ?_ ?_ ?_); (· rfl); (rotate_left 4); (· rfl); (· rfl); (· first | assumption | exact Is.refl _); (· first | assumption | exact Is.refl _); intro x62 n62 h62 l62)) | (refine wpList_store_at rfl rfl (g := w.heap.size + 1 + 1) (j := 0) rfl rfl br (by kernel_rfl) (Nat.le_of_ble_eq_true rfl) (one_pt _ _ _ _ _) ?_; intro w9 b9 o9; rw [putAll_full (by rfl)] at b9; have HB9 : Hid (Below w.heap.size w w9) := Lib.hid (by first | exact HBZ.out.trans (o9.below (by omega)) | exact (below_drewN HBZ.out _).trans (o9.below (by omega))); obtain ⟨r0, r1, r2, r3, r4⟩ := pt_cells b9; clear b9 o9 br))
        refine bodyPost_ret (v := ?_) ?_ rfl ?_
        rotate_left
        · simp [results, Try.results11, go_sem, r0, r1, r2, r3, r4]; rfl
        · exact oneP_no E.out HS.out HB9.out
  · rw [if_pos hk] at E0
    have E := Lib.hid E0
    have kb : (K != 0) = true := by rw [bne_iff_ne]; exact hk
    have HK := Lib.hid hk
    clear E0 hk
    have br : w2.heap[w.heap.size + 1 + 1]? = some (.cells #[.float .f64 0, .float .f64 0, .float .f64 0, .float .f64 0, .float .f64 0] 28 (0, 0)) := G2.out.br
    have HBZ := Lib.hid G2.out.hb
    go_wp2_with (first | (first | ((with_reducible refine wpList_float (o := ⟨some 59, _, _, _, _, _⟩) (x := ?_) (y := ?_) (X := ?_) (Y := ?_) rfl rfl ?_ ?_ ?_ ?_ ?_ ?_); (· rfl); (rotate_left 4); (· rfl); (· rfl); (· first | assumption | exact Is.refl _); (· first | assumption | exact Is.refl _); intro x59 n59 h59 l59) | ((with_reducible refine wpList_float (o := ⟨some 62, _, _, _, _, _⟩) (x := ?_) (y := ?_) (X := ?_) (Y := ?_) rfl rfl ?_ ?_ ?_ ?_ ?_ ?_); (· rfl); (rotate_left 4); (· rfl); (· rfl); (· first | assumption | exact Is.refl _); (· first | assumption | exact Is.refl _); intro x62 n62 h62 l62)) | (refine wpList_store_at rfl rfl (g := w.heap.size + 1 + 1) (j := 0) rfl rfl br (by kernel_rfl) (Nat.le_of_ble_eq_true rfl) (one_pt _ _ _ _ _) ?_; intro w9 b9 o9; rw [putAll_full (by rfl)] at b9; have HB9 : Hid (Below w.heap.size w w9) := Lib.hid (by first | exact HBZ.out.trans (o9.below (by omega)) | exact (below_drewN HBZ.out _).trans (o9.below (by omega))); obtain ⟨r0, r1, r2, r3, r4⟩ := pt_cells b9; clear b9 o9 br))
    refine bodyPost_ret (v := ?_) ?_ rfl ?_
    rotate_left
    · simp [results, Try.results11, go_sem, r0, r1, r2, r3, r4]; rfl
    · exact oneP_no E.out HK.out HB9.out
end Go.Proofs.Ytdngkeefbpffcaa
