import Derived.Test.YtdngkeefbpffcaaPlB
import Derived.Test.YtdngkeefbpffcaaPlJ
set_option autoImplicit false
set_option linter.unusedVariables false
namespace Go.Proofs.Ytdngkeefbpffcaa
open Go.RowKit Lk Pl
theorem one_pt (x y z u v : Nat) : (#[Value.float .f64 x, Value.float .f64 y, Value.float .f64 z, Value.float .f64 u, Value.float .f64 v].all (·.oneCell')) = true := by simp [Value.oneCell']
theorem pt_cells {w : World} {g x y z u v : Nat} {t : TypeId} (h : w.heap[g]? = some (.cells #[.float .f64 x, .float .f64 y, .float .f64 z, .float .f64 u, .float .f64 v] t (0, 0))) :
    w.cell? ⟨g, 0, none⟩ = some (.float .f64 x) ∧ w.cell? ⟨g, 1, none⟩ = some (.float .f64 y) ∧ w.cell? ⟨g, 2, none⟩ = some (.float .f64 z) ∧ w.cell? ⟨g, 3, none⟩ = some (.float .f64 u) ∧ w.cell? ⟨g, 4, none⟩ = some (.float .f64 v) :=
  ⟨cell_of_heap h 0, cell_of_heap h 1, cell_of_heap h 2, cell_of_heap h 3, cell_of_heap h 4⟩
/-- One's own blocks -/
structure OW (w : World) (c v r : Nat) (e n : Int) (bin gate pow : Nat) (sp : Int) (w1 : World) : Prop where
  bb : w1.heap[w.heap.size]? = some (.cells #[.float .f64 c, .float .f64 v, .float .f64 r, .int .i64 e, .int .i64 n] 24 (0, 0))
  bc : w1.heap[w.heap.size + 1]? = some (.cells #[.float .f64 bin, .float .f64 gate, .float .f64 pow, .int .i64 sp] 26 (0, 0))
  br : w1.heap[w.heap.size + 1 + 1]? = some (.cells #[.float .f64 0, .float .f64 0, .float .f64 0, .float .f64 0, .float .f64 0] 28 (0, 0))
  hb : Below w.heap.size w w1
theorem OW.keep {w w1 w2 : World} {c v r : Nat} {e n : Int} {bin gate pow : Nat} {sp : Int} (h : OW w c v r e n bin gate pow sp w1) (b : Below w1.heap.size w1 w2) : OW w c v r e n bin gate pow sp w2 :=
  ⟨(b.block _ (Array.getElem?_eq_some_iff.1 h.bb).1).trans h.bb, (b.block _ (Array.getElem?_eq_some_iff.1 h.bc).1).trans h.bc, (b.block _ (Array.getElem?_eq_some_iff.1 h.br).1).trans h.br, h.hb.trans (b.mono h.hb.size)⟩
theorem OW.start (w : World) (c v r : Nat) (e n : Int) (bin gate pow : Nat) (sp : Int) : OW w c v r e n bin gate pow sp (((w.alloc (.cells #[.float .f64 c, .float .f64 v, .float .f64 r, .int .i64 e, .int .i64 n] 24)).alloc (.cells #[.float .f64 bin, .float .f64 gate, .float .f64 pow, .int .i64 sp] 26)).alloc (.cells #[.float .f64 0, .float .f64 0, .float .f64 0, .float .f64 0, .float .f64 0] 28)) := by
  have s : ∀ (w : World) (o : Obj), (w.alloc o).heap.size = w.heap.size + 1 := fun w o => by show (w.heap.push o).size = _; simp
  have g : ∀ (w : World) (o : Obj) (k : Nat), k = w.heap.size → (w.alloc o).heap[k]? = some o := fun w o k hk => by subst hk; exact Deep.blk_alloc_new _ _
  have p : ∀ (w : World) (o : Obj) (k : Nat), k < w.heap.size → (w.alloc o).heap[k]? = w.heap[k]? := fun w o k hk => ((Below.refl _ w).alloc (Nat.le_refl _) o).block _ hk
  refine ⟨?_, ?_, ?_, by (repeat' (first | exact Below.refl _ _ | refine below_drewN ?_ _ | refine Below.setCell ?_ (by first | exact Nat.le_refl _ | (simp; done) | (simp; omega)) _ | refine Below.alloc ?_ (by first | exact Nat.le_refl _ | (simp; done) | (simp; omega)) _))⟩
  · rw [p _ _ _ (by simp only [s]; omega), p _ _ _ (by simp only [s]; omega), g _ _ _ rfl]
  · rw [p _ _ _ (by simp only [s]; omega), g _ _ _ (by simp only [s])]
  · rw [g _ _ _ (by simp only [s])]
def HALF : Nat := 4602678819172646912
def fin4 (bin gate pow time : Nat) : Bool := [bin, gate, pow, time].all fun x => decide (Lk.Fin x)
/-- the plot that One makes, and its code -/
def oneE (c v r : Nat) (e n : Int) (bin gate pow time : Nat) : Int :=
  if chk c v r e n ≠ 0 then chk c v r e n else if fin4 bin gate pow time = false then 6 else (spd c v r e n bin).2
def oneO (c v r : Nat) (e n : Int) (bin gate pow time : Nat) : Pt :=
  if oneE c v r e n bin gate pow time ≠ 0 then ⟨0, 0, 0, 0, 0⟩ else ⟨fmul (fadd gate 4602678819172646912) c, (spd c v r e n bin).1, pow, 0, time⟩
def OneP (c v r : Nat) (e n : Int) (bin gate pow time : Nat) (w : World) (e' : Ending) (w' : World) : Prop :=
  ∃ o : Pt, e' = .returned (.tuple #[pv o, .int .i64 (oneE c v r e n bin gate pow time)]) ∧ (Is o.range (oneO c v r e n bin gate pow time).range ∧ o.range < 2 ^ 64 ∧ ∀ x, { o with range := x } = { oneO c v r e n bin gate pow time with range := x }) ∧ Below w.heap.size w w'
theorem oneP_no {c v r : Nat} {e n : Int} {bin gate pow time : Nat} {w w' : World} {k : Int} (h : oneE c v r e n bin gate pow time = k) (h0 : k ≠ 0) (hb : Below w.heap.size w w') : OneP c v r e n bin gate pow time w (.returned (.tuple #[pv ⟨0, 0, 0, 0, 0⟩, .int .i64 k])) w' := by
  have e : oneO c v r e n bin gate pow time = ⟨0, 0, 0, 0, 0⟩ := by unfold oneO; rw [if_pos (by rw [h]; exact h0)]
  exact ⟨⟨0, 0, 0, 0, 0⟩, by rw [h], ⟨by rw [e]; exact Is.refl _, Nat.two_pow_pos 64, fun x => by rw [e]⟩, hb⟩
set_option maxHeartbeats 4000000 in
theorem one_walk (c v r : Nat) (e n : Int) (bin gate pow time : Nat) (sp : Int) (w : World) (h1 : -9223372036854775808 ≤ e) (h2 : e ≤ 9223372036854775807) (h3 : -9223372036854775808 ≤ n) (h4 : n ≤ 9223372036854775807)
    (hb : bin < 2 ^ 64) (hg : gate < 2 ^ 64) (hp : pow < 2 ^ 64) (ht : time < 2 ^ 64) :
    Calls Try.prog 10 #[btv c v r e n, .agg #[.float .f64 bin, .float .f64 gate, .float .f64 pow, .int .i64 sp], .float .f64 time] w (OneP c v r e n bin gate pow time w) := by
  have E0 : oneE c v r e n bin gate pow time = if chk c v r e n ≠ 0 then chk c v r e n else if fin4 bin gate pow time = false then 6 else (spd c v r e n bin).2 := rfl
  have HL := Lib.hid (show ∀ x ∈ [bin, gate, pow, time], x < 2 ^ 64 by
    intro x hx
    simp only [List.mem_cons, List.not_mem_nil, or_false] at hx
    rcases hx with rfl | rfl | rfl | rfl <;> assumption)
  have CK := Lib.hid (fun w => check_walk c v r e n w h1 h2 h3 h4)
  have SP := Lib.hid (fun w => speed_walk c v r e n bin w h1 h2 h3 h4)
  have OO := Lib.hid (show oneO c v r e n bin gate pow time = if oneE c v r e n bin gate pow time ≠ 0 then ⟨0, 0, 0, 0, 0⟩ else ⟨fmul (fadd gate 4602678819172646912) c, (spd c v r e n bin).1, pow, 0, time⟩ from rfl)
  obtain ⟨K, hK⟩ : ∃ K, K = chk c v r e n := ⟨_, rfl⟩
  obtain ⟨S, hS⟩ : ∃ S, S = spd c v r e n bin := ⟨_, rfl⟩
  rw [← hK] at CK E0
  rw [← hS] at SP E0 OO
  obtain ⟨sv, se⟩ := S
  clear hK hS hb hg hp ht
  go_enter Try.func10, Try.ntmps10
  go_upto_region 1 with fail
  refine wp_forget (OW w c v r e n bin gate pow sp) (OW.start w c v r e n bin gate pow sp) ?_
  intro w1 g1
  have G1 := Lib.hid g1
  obtain ⟨b0, b1, b2, b3, b4⟩ : w1.cell? ⟨w.heap.size, 0, none⟩ = _ ∧ w1.cell? ⟨w.heap.size, 1, none⟩ = _ ∧ w1.cell? ⟨w.heap.size, 2, none⟩ = _ ∧ w1.cell? ⟨w.heap.size, 3, none⟩ = _ ∧ w1.cell? ⟨w.heap.size, 4, none⟩ = _ := ⟨cell_of_heap g1.bb 0, cell_of_heap g1.bb 1, cell_of_heap g1.bb 2, cell_of_heap g1.bb 3, cell_of_heap g1.bb 4⟩
  simp only [List.getElem?_toArray, List.getElem?_cons_zero, List.getElem?_cons_succ] at b0 b1 b2 b3 b4
  have lb := (Array.getElem?_eq_some_iff.1 g1.bb).1
  clear g1
  go_wp2_with fail
  refine (CK.out _).mono ?_
  rintro e' w2 ⟨rfl, hb⟩
  have G2 := Lib.hid (G1.out.keep hb)
  clear hb b0 b1 b2 b3 b4 lb G1
  have lr := (Array.getElem?_eq_some_iff.1 G2.out.br).1
  by_cases hk : K = 0
  · subst hk
    rw [if_neg (by simp)] at E0
    have c0 := cell_of_heap G2.out.bc 0
    have c1 := cell_of_heap G2.out.bc 1
    have c2 := cell_of_heap G2.out.bc 2
    simp only [List.getElem?_toArray, List.getElem?_cons_zero, List.getElem?_cons_succ] at c0 c1 c2
    have lc := (Array.getElem?_eq_some_iff.1 G2.out.bc).1
    go_wp2_with fail
    have F4 : Fl5 (w2.alloc (.cells #[.float .f64 bin, .float .f64 gate, .float .f64 pow, .float .f64 time] 22)) w2.heap.size 4 [bin, gate, pow, time] := ⟨rfl, HL.out, by simp, fun j x hj => by
      rw [cell_of_heap (Deep.blk_alloc_new w2 _) j]
      match j, hj with
      | 0, hj => cases hj; rfl
      | 1, hj => cases hj; rfl
      | 2, hj => cases hj; rfl
      | 3, hj => cases hj; rfl⟩
    refine (finite_walk _ 4 4 [bin, gate, pow, time] _ F4 (by omega) (by omega)).mono ?_
    rintro e' w3 ⟨rfl, rfl⟩
    have G3 := Lib.hid (G2.out.keep ((Below.refl _ w2).alloc (Nat.le_refl _) (.cells #[.float .f64 bin, .float .f64 gate, .float .f64 pow, .float .f64 time] 22)))
    clear F4 G2 c0 c1 c2 lc lr
    generalize (w2.alloc (.cells #[.float .f64 bin, .float .f64 gate, .float .f64 pow, .float .f64 time] 22)) = w3 at G3 ⊢
    have lr := (Array.getElem?_eq_some_iff.1 G3.out.br).1
    rw [show ([bin, gate, pow, time].all fun x => decide (Lk.Fin x)) = fin4 bin gate pow time from rfl]
    cases hf : fin4 bin gate pow time with
    | false =>
      rw [if_pos hf] at E0
      have E := Lib.hid E0
      clear E0 hf
      have br : w3.heap[w.heap.size + 1 + 1]? = some (.cells #[.float .f64 0, .float .f64 0, .float .f64 0, .float .f64 0, .float .f64 0] 28 (0, 0)) := G3.out.br
      have HBZ := Lib.hid G3.out.hb
      go_wp2_with (first | (first | ((with_reducible refine wpList_float (o := ⟨some 41, _, _, _, _, _⟩) (x := ?_) (y := ?_) (X := ?_) (Y := ?_) rfl rfl ?_ ?_ ?_ ?_ ?_ ?_); (· rfl); (rotate_left 4); (· rfl); (· rfl); (· first | assumption | exact Is.refl _); (· first | assumption | exact Is.refl _); intro x41 n41 h41 l41) | ((with_reducible refine wpList_float (o := ⟨some 44, _, _, _, _, _⟩) (x := ?_) (y := ?_) (X := ?_) (Y := ?_) rfl rfl ?_ ?_ ?_ ?_ ?_ ?_); (· rfl); (rotate_left 4); (· rfl); (· rfl); (· first | assumption | exact Is.refl _); (· first | assumption | exact Is.refl _); intro x44 n44 h44 l44)) | (refine wpList_store_at rfl rfl (g := w.heap.size + 1 + 1) (j := 0) rfl rfl br (by kernel_rfl) (Nat.le_of_ble_eq_true rfl) (one_pt _ _ _ _ _) ?_; intro w9 b9 o9; rw [putAll_full (by rfl)] at b9; have HB9 : Hid (Below w.heap.size w w9) := Lib.hid (by first | exact HBZ.out.trans (o9.below (by omega)) | exact (below_drewN HBZ.out _).trans (o9.below (by omega))); obtain ⟨r0, r1, r2, r3, r4⟩ := pt_cells b9; clear b9 o9 br))
      refine bodyPost_ret (v := ?_) ?_ rfl ?_
      rotate_left
      · simp [results, Try.results10, go_sem, r0, r1, r2, r3, r4]; rfl
      · exact oneP_no E.out (by decide) HB9.out
    | true =>
      rw [if_neg (by rw [hf]; decide)] at E0
      have c0 := cell_of_heap G3.out.bc 0
      have b0 := cell_of_heap G3.out.bb 0
      have b1 := cell_of_heap G3.out.bb 1
      have b2 := cell_of_heap G3.out.bb 2
      have b3 := cell_of_heap G3.out.bb 3
      have b4 := cell_of_heap G3.out.bb 4
      simp only [List.getElem?_toArray, List.getElem?_cons_zero, List.getElem?_cons_succ] at c0 b0 b1 b2 b3 b4
      have lb := (Array.getElem?_eq_some_iff.1 G3.out.bb).1
      have lc := (Array.getElem?_eq_some_iff.1 G3.out.bc).1
      clear hf
      go_wp2_with fail
      refine (SP.out _).mono ?_
      rintro e' w4 ⟨rfl, hb⟩
      have G4 := Lib.hid (G3.out.keep hb)
      clear hb b0 b1 b2 b3 b4 c0 lb lc lr G3
      have lr := (Array.getElem?_eq_some_iff.1 G4.out.br).1
      by_cases hs : se = 0
      · subst hs
        have E := Lib.hid E0
        have b0 := cell_of_heap G4.out.bb 0
        have c1 := cell_of_heap G4.out.bc 1
        have c2 := cell_of_heap G4.out.bc 2
        simp only [List.getElem?_toArray, List.getElem?_cons_zero, List.getElem?_cons_succ] at c1 c2 b0
        have lb := (Array.getElem?_eq_some_iff.1 G4.out.bb).1
        have lc := (Array.getElem?_eq_some_iff.1 G4.out.bc).1
        clear E0
        have br : w4.heap[w.heap.size + 1 + 1]? = some (.cells #[.float .f64 0, .float .f64 0, .float .f64 0, .float .f64 0, .float .f64 0] 28 (0, 0)) := G4.out.br
        have HBZ := Lib.hid G4.out.hb
        go_wp2_with (first | (first | ((with_reducible refine wpList_float (o := ⟨some 41, _, _, _, _, _⟩) (x := ?_) (y := ?_) (X := ?_) (Y := ?_) rfl rfl ?_ ?_ ?_ ?_ ?_ ?_); (· rfl); (rotate_left 4); (· rfl); (· rfl); (· first | assumption | exact Is.refl _); (· first | assumption | exact Is.refl _); intro x41 n41 h41 l41) | ((with_reducible refine wpList_float (o := ⟨some 44, _, _, _, _, _⟩) (x := ?_) (y := ?_) (X := ?_) (Y := ?_) rfl rfl ?_ ?_ ?_ ?_ ?_ ?_); (· rfl); (rotate_left 4); (· rfl); (· rfl); (· first | assumption | exact Is.refl _); (· first | assumption | exact Is.refl _); intro x44 n44 h44 l44)) | (refine wpList_store_at rfl rfl (g := w.heap.size + 1 + 1) (j := 0) rfl rfl br (by kernel_rfl) (Nat.le_of_ble_eq_true rfl) (one_pt _ _ _ _ _) ?_; intro w9 b9 o9; rw [putAll_full (by rfl)] at b9; have HB9 : Hid (Below w.heap.size w w9) := Lib.hid (by first | exact HBZ.out.trans (o9.below (by omega)) | exact (below_drewN HBZ.out _).trans (o9.below (by omega))); obtain ⟨r0, r1, r2, r3, r4⟩ := pt_cells b9; clear b9 o9 br))
        refine bodyPost_ret (v := ?_) ?_ rfl ?_
        rotate_left
        · simp [results, Try.results10, go_sem, r0, r1, r2, r3, r4]; rfl
        · exact ⟨⟨x44, sv, pow, 0, time⟩, by rw [E.out], ⟨by rw [OO.out, if_neg (by rw [E.out]; simp)]; exact h44, l44, fun x => by rw [OO.out, if_neg (by rw [E.out]; simp)]⟩, HB9.out⟩
      · have E := Lib.hid E0
        have kb : (se != 0) = true := by rw [bne_iff_ne]; exact hs
        have HS := Lib.hid hs
        clear E0 hs
        have br : w4.heap[w.heap.size + 1 + 1]? = some (.cells #[.float .f64 0, .float .f64 0, .float .f64 0, .float .f64 0, .float .f64 0] 28 (0, 0)) := G4.out.br
        have HBZ := Lib.hid G4.out.hb
        go_wp2_with (first | (first | ((with_reducible refine wpList_float (o := ⟨some 41, _, _, _, _, _⟩) (x := ?_) (y := ?_) (X := ?_) (Y := ?_) rfl rfl ?_ ?_ ?_ ?_ ?_ ?_); (· rfl); (rotate_left 4); (· rfl); (· rfl); (· first | assumption | exact Is.refl _); (· first | assumption | exact Is.refl _); intro x41 n41 h41 l41) | ((with_reducible refine wpList_float (o := ⟨some 44, _, _, _, _, _⟩) (x := ?_) (y := ?_) (X := ?_) (Y := ?_) rfl rfl ?_ ?_ ?_ ?_ ?_ ?_); (· rfl); (rotate_left 4); (· rfl); (· rfl); (· first | assumption | exact Is.refl _); (· first | assumption | exact Is.refl _); intro x44 n44 h44 l44)) | (refine wpList_store_at rfl rfl (g := w.heap.size + 1 + 1) (j := 0) rfl rfl br (by kernel_rfl) (Nat.le_of_ble_eq_true rfl) (one_pt _ _ _ _ _) ?_; intro w9 b9 o9; rw [putAll_full (by rfl)] at b9; have HB9 : Hid (Below w.heap.size w w9) := Lib.hid (by first | exact HBZ.out.trans (o9.below (by omega)) | exact (below_drewN HBZ.out _).trans (o9.below (by omega))); obtain ⟨r0, r1, r2, r3, r4⟩ := pt_cells b9; clear b9 o9 br))
        refine bodyPost_ret (v := ?_) ?_ rfl ?_
        rotate_left
        · simp [results, Try.results10, go_sem, r0, r1, r2, r3, r4]; rfl
        · exact oneP_no E.out HS.out HB9.out
  · rw [if_pos hk] at E0
    have E := Lib.hid E0
    have kb : (K != 0) = true := by rw [bne_iff_ne]; exact hk
    have HK := Lib.hid hk
    clear E0 hk
    have br : w2.heap[w.heap.size + 1 + 1]? = some (.cells #[.float .f64 0, .float .f64 0, .float .f64 0, .float .f64 0, .float .f64 0] 28 (0, 0)) := G2.out.br
    have HBZ := Lib.hid G2.out.hb
    go_wp2_with (first | (first | ((with_reducible refine wpList_float (o := ⟨some 41, _, _, _, _, _⟩) (x := ?_) (y := ?_) (X := ?_) (Y := ?_) rfl rfl ?_ ?_ ?_ ?_ ?_ ?_); (· rfl); (rotate_left 4); (· rfl); (· rfl); (· first | assumption | exact Is.refl _); (· first | assumption | exact Is.refl _); intro x41 n41 h41 l41) | ((with_reducible refine wpList_float (o := ⟨some 44, _, _, _, _, _⟩) (x := ?_) (y := ?_) (X := ?_) (Y := ?_) rfl rfl ?_ ?_ ?_ ?_ ?_ ?_); (· rfl); (rotate_left 4); (· rfl); (· rfl); (· first | assumption | exact Is.refl _); (· first | assumption | exact Is.refl _); intro x44 n44 h44 l44)) | (refine wpList_store_at rfl rfl (g := w.heap.size + 1 + 1) (j := 0) rfl rfl br (by kernel_rfl) (Nat.le_of_ble_eq_true rfl) (one_pt _ _ _ _ _) ?_; intro w9 b9 o9; rw [putAll_full (by rfl)] at b9; have HB9 : Hid (Below w.heap.size w w9) := Lib.hid (by first | exact HBZ.out.trans (o9.below (by omega)) | exact (below_drewN HBZ.out _).trans (o9.below (by omega))); obtain ⟨r0, r1, r2, r3, r4⟩ := pt_cells b9; clear b9 o9 br))
    refine bodyPost_ret (v := ?_) ?_ rfl ?_
    rotate_left
    · simp [results, Try.results10, go_sem, r0, r1, r2, r3, r4]; rfl
    · exact oneP_no E.out HK.out HB9.out
end Go.Proofs.Ytdngkeefbpffcaa
