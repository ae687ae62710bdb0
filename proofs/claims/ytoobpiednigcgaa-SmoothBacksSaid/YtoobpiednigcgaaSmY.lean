import Derived.Test.YtoobpiednigcgaaSmK
import Derived.Test.YtoobpiednigcgaaSmX
set_option autoImplicit false
set_option linter.unusedVariables false
namespace Go.Proofs.Ytoobpiednigcgaa
open Go.RowKit Lk
theorem fs_blk {w : World} {g n : Nat} {l : List Nat} {cs : Array Value} (h : w.heap[g]? = some (.cells cs 24 (0, 0))) (hc : cs = (fls l).toArray) (hn : n = l.length) (hl : ∀ x ∈ l, x < 2 ^ 64) (h63 : l.length ≤ 4194304) : Fs w (some ⟨g, 0, none⟩) n n l := by
  subst hc; subst hn
  refine ⟨rfl, Nat.le_refl _, by omega, hl, .inr ⟨g, 0, rfl, (Array.getElem?_eq_some_iff.1 h).1, fun j hj => ?_⟩, fun h => by cases h⟩
  rw [cell_of_heap h (0 + j)]
  simp [fls, hj]
theorem fs_nil (w : World) : Fs w none 0 0 [] := ⟨rfl, Nat.le_refl _, by omega, (fun x hx => by cases hx), .inl rfl, fun _ => rfl⟩
theorem ss_nil (w : World) : Ss w none 0 0 [] := ⟨rfl, Nat.le_refl _, by omega, (fun x hx => by cases hx), .inl rfl, fun _ => rfl⟩
theorem ss_one {w : World} {g : Nat} {s : St} (h : Bs w g s) (hl : St.Lt s) : Ss w (some ⟨g, 0, none⟩) 1 1 [s] := by
  refine ⟨rfl, Nat.le_refl _, by omega, (fun x hx => by rw [List.mem_singleton.1 hx]; exact hl), .inr ⟨g, 0, rfl, h.lt, fun j hj => ?_⟩, fun h => by cases h⟩
  match j, hj with
  | 0, _ => exact h.at
theorem is_blk {w : World} {g n : Nat} {l : List Nat} {cs : Array Value} (h : w.heap[g]? = some (.cells cs 3 (0, 0))) (hc : cs = (nns l).toArray) (hn : n = l.length) (h63 : l.length ≤ 4194304) : Is1 w (some ⟨g, 0, none⟩) n l := by
  subst hc; subst hn
  refine ⟨rfl, by omega, .inr ⟨g, 0, rfl, (Array.getElem?_eq_some_iff.1 h).1, fun j hj => ?_⟩⟩
  rw [cell_of_heap h (0 + j)]
  simp [nns, hj]
theorem Try.und24 : Try.prog.underlying 24 = some (.float .f64) := by kernel_rfl
theorem bel2 (w : World) (A B : Obj) : Below w.heap.size w ((w.alloc A).alloc B) := ((Below.refl _ _).alloc (Nat.le_refl _) _).alloc (by simp) _
def wS : St := ⟨4607182418800017408, 0, 4611686018427387904, 0, 4613937818241073152⟩
theorem wS_lt : St.Lt wS := ⟨by decide, by decide, by decide, by decide, by decide⟩
theorem works_backE : backE [wS] [] 4607182418800017408 = 0 := by decide +kernel
theorem works_backR : backR [wS] [] 4607182418800017408 = [wS] := by unfold backR; rw [works_backE, if_pos rfl]; rfl
theorem lit_lt {l : List Nat} (h : (l.all fun x => decide (x < 2 ^ 64)) = true) : ∀ x ∈ l, x < 2 ^ 64 := by
  rw [List.all_eq_true] at h
  exact fun x hx => of_decide_eq_true (h x hx)
set_option maxRecDepth 100000 in
set_option maxHeartbeats 8000000 in
theorem works_walk (w : World) : Calls Try.prog 9 #[] w (fun e w' => e = .returned (.bool true) ∧ Below w.heap.size w w') := by
  have q1 : (FloatKind.f64.format.order 4607182418800017408 4607182418800017408 == some Ordering.eq) = true := by decide +kernel
  have q2 : (FloatKind.f64.format.order 4611686018427387904 4611686018427387904 == some Ordering.eq) = true := by decide +kernel
  go_enter Try.func9, Try.ntmps9
  go_wp2_with fail
  have C := fun (w1 : World) h1 h2 => line_walk (some ⟨w.heap.size, 0, none⟩) (some ⟨w.heap.size + 1, 0, none⟩) 3 3 3 3 [0, 4607182418800017408, 4611686018427387904] [4607182418800017408, 4613937818241073152, 4617315517961601024] w1 h1 h2
  rw [works_line] at C
  have C1 := Lib.hid C
  clear C
  refine (C1.out _ (fs_blk (by rw [al, if_neg (by simp), al, if_pos rfl]; rfl) rfl rfl (lit_lt (by decide +kernel)) (by decide)) (fs_blk (by rw [al, if_pos (by simp)]; rfl) rfl rfl (lit_lt (by decide +kernel)) (by decide))).mono ?_
  rintro e w1 ⟨rfl, b1⟩
  have B1 := Lib.hid (Below.trans (bel2 w _ _) (b1.mono (by simp; omega)))
  clear b1 C1
  go_wp2_with fail
  refine (turns_walk (some ⟨w1.heap.size, 0, none⟩) (some ⟨w1.heap.size + 1, 0, none⟩) 4 4 4 4 [0, 4607182418800017408, 4611686018427387904, 4613937818241073152] [0, 4607182418800017408, 4611686018427387904, 0] 4602678819172646912 _ (fs_blk (by rw [al, if_neg (by simp), al, if_pos rfl]; rfl) rfl rfl (lit_lt (by decide +kernel)) (by decide)) (fs_blk (by rw [al, if_pos (by simp)]; rfl) rfl rfl (lit_lt (by decide +kernel)) (by decide))).mono ?_
  rintro e w2 ⟨v, rfl, ow, b2⟩
  rw [works_turnsR] at ow
  rw [works_turnsE]
  obtain ⟨a2, c2, rfl, i2⟩ := own_is ow
  have I2 := Lib.hid i2
  have B2 := Lib.hid (Below.trans (Below.trans B1.out ((bel2 w1 _ _).mono B1.out.size)) (b2.mono (by have := B1.out.size; simp; omega)))
  clear ow i2 b2 B1
  go_wp2_with fail
  refine (back_walk (some ⟨w2.heap.size + 1, 0, none⟩) none 1 0 1 0 [wS] [] 4607182418800017408 _ (ss_one (s := wS) (Bs.new' _ wS (by simp)) wS_lt) (fs_nil _) (by decide)).mono ?_
  rintro e w3 ⟨v3, rfl, rs, b3⟩
  rw [works_backR] at rs
  rw [works_backE]
  rcases rs with ⟨_, h⟩ | ⟨g, co, hv, hg, hco, _, out⟩
  · cases h
  have hv' : v3 = .slice (some ⟨g, 0, none⟩) 1 co := hv
  subst hv'
  have c0 : w3.cell? ⟨g, 0, none⟩ = some (.float .f64 4607182418800017408) := (out.at (j := 0) (s := wS) rfl).c0
  have c1 : w3.cell? ⟨g, 1, none⟩ = some (.float .f64 0) := (out.at (j := 0) (s := wS) rfl).c1
  have c2' : w3.cell? ⟨g, 2, none⟩ = some (.float .f64 4611686018427387904) := (out.at (j := 0) (s := wS) rfl).c2
  have c3 : w3.cell? ⟨g, 3, none⟩ = some (.float .f64 0) := (out.at (j := 0) (s := wS) rfl).c3
  have c4 : w3.cell? ⟨g, 4, none⟩ = some (.float .f64 4613937818241073152) := (out.at (j := 0) (s := wS) rfl).c4
  have bs : Bs w3 w2.heap.size wS := ((Bs.new' w2 wS rfl).old _).keep b3
  have d0 : w3.cell? ⟨w2.heap.size, 0, none⟩ = some (.float .f64 4607182418800017408) := bs.at.c0
  have d1 : w3.cell? ⟨w2.heap.size, 1, none⟩ = some (.float .f64 0) := bs.at.c1
  have d2 : w3.cell? ⟨w2.heap.size, 2, none⟩ = some (.float .f64 4611686018427387904) := bs.at.c2
  have d3 : w3.cell? ⟨w2.heap.size, 3, none⟩ = some (.float .f64 0) := bs.at.c3
  have d4 : w3.cell? ⟨w2.heap.size, 4, none⟩ = some (.float .f64 4613937818241073152) := bs.at.c4
  have y1 := out.lt
  have y2 := bs.lt
  have B23 := Below.trans (bel2 w2 (.cells #[.float .f64 4607182418800017408, .float .f64 0, .float .f64 4611686018427387904, .float .f64 0, .float .f64 4613937818241073152] 27) (.cells #[.float .f64 4607182418800017408, .float .f64 0, .float .f64 4611686018427387904, .float .f64 0, .float .f64 4613937818241073152] 27)) (b3.mono (by simp; omega))
  have I3 := Lib.hid (I2.out.keep B23)
  have B3 := Lib.hid (Below.trans B2.out (B23.mono B2.out.size))
  have f1 : (FloatKind.f64.format.order 0 0 == some Ordering.eq) = true := by decide +kernel
  have f2 : (FloatKind.f64.format.order 4613937818241073152 4613937818241073152 == some Ordering.eq) = true := by decide +kernel
  have f3 := fun x y (w : World) => run_equalIn_float (P := Try.prog) 9998 x y w Try.und24
  simp only [Nat.reduceAdd] at f3
  clear out bs b3 hv hg hco B2 I2 B23
  go_wp2_with fail
  refine wp_region_J 36 (fun x => Below w3.heap.size w3 x) (by kernel_rfl) rfl (by kernel_rfl) ((Below.refl _ w3).drew) (fun wj hJ hs => ?_)
  have HJ := Lib.hid hJ
  clear hJ

  (refine j_take 0 _ ?_ hs rfl rfl (by kernel_rfl) (by kernel_rfl) HJ.out (fun w' hw' => ?_) ?_; rotate_left; (· skip; go_simp; rfl); (go_simp))
  (refine j_take 1 _ ?_ hs rfl rfl (by kernel_rfl) (by kernel_rfl) HJ.out (fun w' hw' => ?_) ?_; rotate_left; (· skip; go_simp; rfl); (go_simp))
  (refine j_take 2 _ ?_ hs rfl rfl (by kernel_rfl) (by kernel_rfl) HJ.out (fun w' hw' => ?_) ?_; rotate_left; (· skip; go_simp; rfl); (go_simp))
  (refine j_take2 3 _ ?_ hs rfl (by kernel_rfl) (by kernel_rfl) HJ.out ?_ (fun w' hw' => ?_) ?_; rotate_left; (· go_simp); (· skip; go_simp; rfl); (go_simp))
  (refine j_take2 4 _ ?_ hs rfl (by kernel_rfl) (by kernel_rfl) HJ.out ?_ (fun w' hw' => ?_) ?_; rotate_left; (· go_simp); (· skip; go_simp; rfl); (go_simp))
  (refine j_take 5 _ ?_ hs rfl rfl (by kernel_rfl) (by kernel_rfl) HJ.out (fun w' hw' => ?_) ?_; rotate_left; (· skip; go_simp; rfl); (go_simp))
  (refine j_take 6 _ ?_ hs rfl rfl (by kernel_rfl) (by kernel_rfl) HJ.out (fun w' hw' => ?_) ?_; rotate_left; (· skip; go_simp; rfl); (go_simp))
  (refine j_take2 7 _ ?_ hs rfl (by kernel_rfl) (by kernel_rfl) HJ.out ?_ (fun w' hw' => ?_) ?_; rotate_left; (· go_simp); (· skip; go_simp; rfl); (go_simp))
  (refine j_take2 8 _ ?_ hs rfl (by kernel_rfl) (by kernel_rfl) HJ.out ?_ (fun w' hw' => ?_) ?_; rotate_left; (· go_simp); (· skip; go_simp; rfl); (go_simp))
  (refine j_take 9 _ ?_ hs rfl rfl (by kernel_rfl) (by kernel_rfl) HJ.out (fun w' hw' => ?_) ?_; rotate_left; (· skip; go_simp; rfl); (go_simp))
  (refine j_take 10 _ ?_ hs rfl rfl (by kernel_rfl) (by kernel_rfl) HJ.out (fun w' hw' => ?_) ?_; rotate_left; (· skip; go_simp; rfl); (go_simp))
  (refine j_take2 11 _ ?_ hs rfl (by kernel_rfl) (by kernel_rfl) HJ.out ?_ (fun w' hw' => ?_) ?_; rotate_left; (· go_simp); (· skip; go_simp; rfl); (go_simp))
  refine j_one 12 _ rfl (by kernel_rfl) HJ.out ?_
  go_wp2_with fail
  have BN := Lib.hid (Deep.blk_alloc_new wj (.cells #[.int .i64 2] 3))
  have HJ2 := Lib.hid (HJ.out.alloc HJ.out.size (.cells #[.int .i64 2] 3))
  refine ⟨HJ2.out, ?_⟩
  refine j_one 13 _ rfl (by kernel_rfl) HJ2.out ?_
  go_wp2_with fail
  refine (ints_same a2 (some ⟨wj.heap.size, 0, none⟩) 1 c2 1 [2] _ (I3.out.keep HJ2.out) (is_blk BN.out rfl rfl (by decide))).mono ?_
  rintro e w4 ⟨rfl, b4⟩
  have HJ := Lib.hid (Below.trans HJ2.out (b4.mono HJ2.out.size))
  clear b4 BN HJ2
  go_wp2_with fail
  refine ⟨HJ.out, ?_⟩

  (refine j_take 14 _ ?_ hs rfl rfl (by kernel_rfl) (by kernel_rfl) HJ.out (fun w' hw' => ?_) ?_; rotate_left; (· skip; go_simp; rfl); (go_simp))
  (refine j_take 15 _ ?_ hs rfl rfl (by kernel_rfl) (by kernel_rfl) HJ.out (fun w' hw' => ?_) ?_; rotate_left; (· skip; go_simp; rfl); (go_simp))
  (refine j_take2 16 _ ?_ hs rfl (by kernel_rfl) (by kernel_rfl) HJ.out ?_ (fun w' hw' => ?_) ?_; rotate_left; (· go_simp); (· skip; go_simp; rfl); (go_simp))
  (refine j_take2 17 _ ?_ hs rfl (by kernel_rfl) (by kernel_rfl) HJ.out ?_ (fun w' hw' => ?_) ?_; rotate_left; (· go_simp); (· skip; go_simp; rfl); (go_simp))
  (refine j_take 18 _ ?_ hs rfl rfl (by kernel_rfl) (by kernel_rfl) HJ.out (fun w' hw' => ?_) ?_; rotate_left; (· skip; go_simp; rfl); (go_simp))
  (refine j_take 19 _ ?_ hs rfl rfl (by kernel_rfl) (by kernel_rfl) HJ.out (fun w' hw' => ?_) ?_; rotate_left; (· skip; go_simp; rfl); (go_simp))
  (refine j_take2 20 _ ?_ hs rfl (by kernel_rfl) (by kernel_rfl) HJ.out ?_ (fun w' hw' => ?_) ?_; rotate_left; (· go_simp); (· skip; go_simp; rfl); (go_simp))
  (refine j_take2 21 _ ?_ hs rfl (by kernel_rfl) (by kernel_rfl) HJ.out ?_ (fun w' hw' => ?_) ?_; rotate_left; (· go_simp); (· skip; go_simp; rfl); (go_simp))
  (refine j_take2 22 _ ?_ hs rfl (by kernel_rfl) (by kernel_rfl) HJ.out ?_ (fun w' hw' => ?_) ?_; rotate_left; (· go_simp); (· skip; go_simp; rfl); (go_simp))
  (refine j_take 23 _ ?_ hs rfl rfl (by kernel_rfl) (by kernel_rfl) HJ.out (fun w' hw' => ?_) ?_; rotate_left; (· skip; go_simp; rfl); (go_simp))
  (refine j_take 24 _ ?_ hs rfl rfl (by kernel_rfl) (by kernel_rfl) HJ.out (fun w' hw' => ?_) ?_; rotate_left; (· skip; go_simp; rfl); (go_simp))
  (refine j_take2 25 _ ?_ hs rfl (by kernel_rfl) (by kernel_rfl) HJ.out ?_ (fun w' hw' => ?_) ?_; rotate_left; (· go_simp); (· skip; go_simp; rfl); (go_simp))
  (refine j_take2 26 _ ?_ hs rfl (by kernel_rfl) (by kernel_rfl) HJ.out ?_ (fun w' hw' => ?_) ?_; rotate_left; (· go_simp); (· skip; go_simp; rfl); (go_simp))
  (refine j_take2 27 _ ?_ hs rfl (by kernel_rfl) (by kernel_rfl) HJ.out ?_ (fun w' hw' => ?_) ?_; rotate_left; (· go_simp); (· (have hc := fun b o h => Below.cell hw' (p := ⟨b, o, none⟩) h); go_simp; rfl); (go_simp))
  (refine j_take2 28 _ ?_ hs rfl (by kernel_rfl) (by kernel_rfl) HJ.out ?_ (fun w' hw' => ?_) ?_; rotate_left; (· go_simp); (· (have hc := fun b o h => Below.cell hw' (p := ⟨b, o, none⟩) h); go_simp; rfl); (go_simp))
  (refine j_take2 29 _ ?_ hs rfl (by kernel_rfl) (by kernel_rfl) HJ.out ?_ (fun w' hw' => ?_) ?_; rotate_left; (· go_simp); (· skip; go_simp; rfl); (go_simp))
  (refine j_take 30 _ ?_ hs rfl rfl (by kernel_rfl) (by kernel_rfl) HJ.out (fun w' hw' => ?_) ?_; rotate_left; (· skip; go_simp; rfl); (go_simp))
  (refine j_take 31 _ ?_ hs rfl rfl (by kernel_rfl) (by kernel_rfl) HJ.out (fun w' hw' => ?_) ?_; rotate_left; (· skip; go_simp; rfl); (go_simp))
  (refine j_take2 32 _ ?_ hs rfl (by kernel_rfl) (by kernel_rfl) HJ.out ?_ (fun w' hw' => ?_) ?_; rotate_left; (· go_simp); (· skip; go_simp; rfl); (go_simp))
  (refine j_take2 33 _ ?_ hs rfl (by kernel_rfl) (by kernel_rfl) HJ.out ?_ (fun w' hw' => ?_) ?_; rotate_left; (· go_simp); (· skip; go_simp; rfl); (go_simp))
  (refine j_take 34 _ ?_ hs rfl rfl (by kernel_rfl) (by kernel_rfl) HJ.out (fun w' hw' => ?_) ?_; rotate_left; (· skip; go_simp; rfl); (go_simp))
  refine j_one 35 _ rfl (by kernel_rfl) HJ.out ?_
  clear c0 c1 c2' c3 c4 d0 d1 d2 d3 d4 f3
  go_wp2_with fail
  refine ⟨HJ.out, j_done (by kernel_rfl) ?_⟩
  go_wp2_with fail
  go_ret
  exact ⟨rfl, Below.trans B3.out (HJ.out.mono B3.out.size)⟩
end Go.Proofs.Ytoobpiednigcgaa
