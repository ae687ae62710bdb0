import Derived.Test.YtdngkeefbpffcaaPlQ
import Derived.Test.YtdngkeefbpffcaaRsS
set_option autoImplicit false
set_option linter.unusedVariables false
namespace Go.Proofs.Ytdngkeefbpffcaa
open Go.RowKit Lk Pl
theorem wk_m0 : mergeL wk3 4617315517961601024 4607182418800017408 3 [2, 0, 1] = [(2, [4613937818241073152, 4607182418800017408]), (0, [4611686018427387904])] := by decide +kernel
theorem wk_ord (a : Option Addr) (cap : Nat) : OrdOf a 3 cap wk3 [2, 0, 1] := fun w h => by
  have := order_walk a 3 cap wk3 w h (by omega)
  rw [wk3_order] at this
  exact this
def wkB : List Bt := [⟨4621819117588971520, 4602678819172646912, 4652007308841189376, 5, 4⟩, ⟨4621819117588971520, 4602678819172646912, 4652007308841189376, 7, 4⟩]
def wkC : List (List Int) := [[2, 0], [3]]
theorem wk_res : resW wkB wkC 0 40 = ([10, 17], 0) := by decide +kernel
theorem wk_blks (w : World) : SBt ((((w.alloc (.cells #[.float .f64 4621819117588971520, .float .f64 4602678819172646912, .float .f64 4652007308841189376, .int .i64 5, .int .i64 4, .float .f64 4621819117588971520, .float .f64 4602678819172646912, .float .f64 4652007308841189376, .int .i64 7, .int .i64 4] 24)).alloc (.cells #[.int .i64 2, .int .i64 0] 2)).alloc (.cells #[.int .i64 3] 2)).alloc (.cells #[.slice (some ⟨w.heap.size + 1, 0, none⟩) 2 2, .slice (some ⟨w.heap.size + 1 + 1, 0, none⟩) 1 1] 39)) (some ⟨w.heap.size, 0, none⟩) 2 2 wkB ∧
    SC ((((w.alloc (.cells #[.float .f64 4621819117588971520, .float .f64 4602678819172646912, .float .f64 4652007308841189376, .int .i64 5, .int .i64 4, .float .f64 4621819117588971520, .float .f64 4602678819172646912, .float .f64 4652007308841189376, .int .i64 7, .int .i64 4] 24)).alloc (.cells #[.int .i64 2, .int .i64 0] 2)).alloc (.cells #[.int .i64 3] 2)).alloc (.cells #[.slice (some ⟨w.heap.size + 1, 0, none⟩) 2 2, .slice (some ⟨w.heap.size + 1 + 1, 0, none⟩) 1 1] 39)) (some ⟨w.heap.size + 1 + 1 + 1, 0, none⟩) 2 2 wkC := by
  generalize hz : ((((w.alloc (.cells #[.float .f64 4621819117588971520, .float .f64 4602678819172646912, .float .f64 4652007308841189376, .int .i64 5, .int .i64 4, .float .f64 4621819117588971520, .float .f64 4602678819172646912, .float .f64 4652007308841189376, .int .i64 7, .int .i64 4] 24)).alloc (.cells #[.int .i64 2, .int .i64 0] 2)).alloc (.cells #[.int .i64 3] 2)).alloc (.cells #[.slice (some ⟨w.heap.size + 1, 0, none⟩) 2 2, .slice (some ⟨w.heap.size + 1 + 1, 0, none⟩) 1 1] 39)) = z
  have hs : z.heap.size = w.heap.size + 4 := by rw [← hz]; simp
  have g0 : z.heap[w.heap.size]? = some (.cells #[.float .f64 4621819117588971520, .float .f64 4602678819172646912, .float .f64 4652007308841189376, .int .i64 5, .int .i64 4, .float .f64 4621819117588971520, .float .f64 4602678819172646912, .float .f64 4652007308841189376, .int .i64 7, .int .i64 4] 24 (0, 0)) := by
    rw [← hz, Deep.blk_alloc_lt _ _ _ (by first | (simp; done) | (simp; omega)), Deep.blk_alloc_lt _ _ _ (by first | (simp; done) | (simp; omega)), Deep.blk_alloc_lt _ _ _ (by simp), Deep.blk_alloc_new]
  have nw : ∀ (x : World) (o : Obj) (k : Nat), k = x.heap.size → (x.alloc o).heap[k]? = some o := fun x o k hk => by subst hk; exact Deep.blk_alloc_new _ _
  have g1 : z.heap[w.heap.size + 1]? = some (.cells #[.int .i64 2, .int .i64 0] 2 (0, 0)) := by
    rw [← hz, Deep.blk_alloc_lt _ _ _ (by first | (simp; done) | (simp; omega)), Deep.blk_alloc_lt _ _ _ (by simp), nw _ _ _ (by simp)]
  have g2 : z.heap[w.heap.size + 1 + 1]? = some (.cells #[.int .i64 3] 2 (0, 0)) := by
    rw [← hz, Deep.blk_alloc_lt _ _ _ (by simp), nw _ _ _ (by simp)]
  have g3 : z.heap[w.heap.size + 1 + 1 + 1]? = some (.cells #[.slice (some ⟨w.heap.size + 1, 0, none⟩) 2 2, .slice (some ⟨w.heap.size + 1 + 1, 0, none⟩) 1 1] 39 (0, 0)) := by
    rw [← hz, nw _ _ _ (by simp)]
  clear hz
  refine ⟨⟨rfl, by omega, by omega, .inr ⟨_, 0, rfl, by omega, fun j t hj => ?_⟩, fun t ht => ?_⟩, ⟨rfl, by omega, by omega, .inr ⟨_, 0, rfl, by omega, fun j C hj => ?_⟩⟩⟩
  · match j, hj with
    | 0, hj => cases hj; exact ⟨cell_of_heap g0 0, cell_of_heap g0 1, cell_of_heap g0 2, cell_of_heap g0 3, cell_of_heap g0 4⟩
    | 1, hj => cases hj; exact ⟨cell_of_heap g0 5, cell_of_heap g0 6, cell_of_heap g0 7, cell_of_heap g0 8, cell_of_heap g0 9⟩
  · simp only [wkB, List.mem_cons, List.not_mem_nil, or_false] at ht
    rcases ht with rfl | rfl <;> exact ⟨by decide, by decide, by decide, by decide⟩
  · match j, hj with
    | 0, hj => cases hj; exact ⟨_, _, cell_of_heap g3 0, rfl, by decide, by decide, .inr ⟨_, 0, rfl, by omega, fun j x hx => by
        match j, hx with
        | 0, hx => cases hx; exact cell_of_heap g1 0
        | 1, hx => cases hx; exact cell_of_heap g1 1⟩⟩
    | 1, hj => cases hj; exact ⟨_, _, cell_of_heap g3 1, rfl, by decide, by decide, .inr ⟨_, 0, rfl, by omega, fun j x hx => by
        match j, hx with
        | 0, hx => cases hx; exact cell_of_heap g2 0⟩⟩
theorem wk_sp (w : World) : Sp (w.alloc (.cells #[.float .f64 4629137466983448576, .float .f64 0, .float .f64 4611686018427387904, .float .f64 0, .float .f64 0, .float .f64 4622945017495814144, .float .f64 0, .float .f64 4607182418800017408, .float .f64 0, .float .f64 0, .float .f64 4621819117588971520, .float .f64 0, .float .f64 4613937818241073152, .float .f64 0, .float .f64 0] 28)) (some ⟨w.heap.size, 0, none⟩) 3 3 wk3 := by
  have g0 := Deep.blk_alloc_new w (.cells #[.float .f64 4629137466983448576, .float .f64 0, .float .f64 4611686018427387904, .float .f64 0, .float .f64 0, .float .f64 4622945017495814144, .float .f64 0, .float .f64 4607182418800017408, .float .f64 0, .float .f64 0, .float .f64 4621819117588971520, .float .f64 0, .float .f64 4613937818241073152, .float .f64 0, .float .f64 0] 28)
  refine ⟨rfl, by omega, by omega, fun s hs => ?_, .inr ⟨_, 0, rfl, by simp, fun j hj => ?_⟩, fun h => by cases h⟩
  · simp only [wk3, List.mem_cons, List.not_mem_nil, or_false] at hs
    rcases hs with rfl | rfl | rfl <;> exact ⟨by decide, by decide, by decide, by decide, by decide⟩
  · match j, hj with
    | 0, hj => exact ⟨cell_of_heap g0 0, cell_of_heap g0 1, cell_of_heap g0 2, cell_of_heap g0 3, cell_of_heap g0 4⟩
    | 1, hj => exact ⟨cell_of_heap g0 5, cell_of_heap g0 6, cell_of_heap g0 7, cell_of_heap g0 8, cell_of_heap g0 9⟩
    | 2, hj => exact ⟨cell_of_heap g0 10, cell_of_heap g0 11, cell_of_heap g0 12, cell_of_heap g0 13, cell_of_heap g0 14⟩
/-- the plot that wakes made, and nothing of the old turned -/
structure Wk (w : World) (g : Nat) (wx : World) : Prop where
  b : Below w.heap.size w wx
  p : wx.heap[g]? = some (.cells #[.float .f64 4629137466983448576, .float .f64 9223372036854775808, .float .f64 4621256167635550208, .float .f64 0, .float .f64 4613937818241073152] 28 (0, 0))
theorem Wk.keep {w wx w' : World} {g : Nat} (h : Wk w g wx) (b : Below wx.heap.size wx w') : Wk w g w' := ⟨h.b.trans (b.mono h.b.size), (b.block _ (Array.getElem?_eq_some_iff.1 h.p).1).trans h.p⟩
theorem al_below (w : World) (o : Obj) : Below w.heap.size w (w.alloc o) := (Below.refl _ _).alloc (Nat.le_refl _) _
set_option maxRecDepth 100000 in
set_option maxHeartbeats 4000000 in
theorem wakes_walk (w : World) : Calls Try.prog 13 #[] w (fun e w' => e = .returned (.bool true) ∧ Below w.heap.size w w') := by
  go_enter Try.func13, Try.ntmps13
  go_wp2_with fail
  refine (beat_walk 5 w).mono ?_
  rintro e w1 ⟨rfl, b1⟩
  have B1 := Lib.hid b1
  clear b1
  go_wp2_with fail
  refine (one_walk 4621819117588971520 4602678819172646912 4652007308841189376 5 4 0 4612811918334230528 4621256167635550208 4613937818241073152 0 w1 (by omega) (by omega) (by omega) (by omega) (by decide) (by decide) (by decide) (by decide)).mono ?_
  rintro e w2 ⟨q, rfl, ho, b2⟩
  rw [wk_oneE]
  rw [wk_oneO] at ho
  obtain rfl : q = ⟨4629137466983448576, 9223372036854775808, 4621256167635550208, 0, 4613937818241073152⟩ := by
    obtain ⟨h1, _, h3⟩ := ho
    obtain ⟨a, b, c, d, e⟩ := q
    have h4 := h3 0
    simp only [Pt.mk.injEq, true_and] at h4
    obtain ⟨rfl, rfl, rfl, rfl⟩ := h4
    rcases h1 with ⟨_, h⟩ | ⟨h, _⟩
    · exact absurd h (by decide +kernel)
    · simp only at h; rw [h]
  have B2 := Lib.hid (B1.out.trans (b2.mono B1.out.size))
  clear b2 ho B1
  go_wp2_with fail
  refine (beat_walk 5 _).mono ?_
  rintro e w3 ⟨rfl, b3⟩
  obtain ⟨gq, hgq⟩ : ∃ gq, gq = w2.heap.size := ⟨_, rfl⟩
  have K3 : Hid (Wk w gq w3) := Lib.hid ((Wk.mk (B2.out.trans ((al_below w2 _).mono B2.out.size)) (by rw [hgq]; exact Deep.blk_alloc_new _ _)).keep b3)
  rw [← hgq]
  clear b3 hgq B2
  go_wp2_with fail
  refine (beat_walk 7 _).mono ?_
  rintro e w4 ⟨rfl, b4⟩
  have K4 := Lib.hid (K3.out.keep b4)
  clear b4 K3
  go_wp2_with fail
  have WB := wk_blks w4
  have K5 := Lib.hid (K4.out.keep (((((Below.refl _ w4).alloc (Nat.le_refl _) (.cells #[.float .f64 4621819117588971520, .float .f64 4602678819172646912, .float .f64 4652007308841189376, .int .i64 5, .int .i64 4, .float .f64 4621819117588971520, .float .f64 4602678819172646912, .float .f64 4652007308841189376, .int .i64 7, .int .i64 4] 24)).alloc (by simp) (.cells #[.int .i64 2, .int .i64 0] 2)).alloc (by first | (simp; done) | (simp; omega)) (.cells #[.int .i64 3] 2)).alloc (by first | (simp; done) | (simp; omega)) (.cells #[.slice (some ⟨w4.heap.size + 1, 0, none⟩) 2 2, .slice (some ⟨w4.heap.size + 1 + 1, 0, none⟩) 1 1] 39)))
  obtain ⟨w5, h5⟩ : ∃ x, x = ((((w4.alloc (.cells #[.float .f64 4621819117588971520, .float .f64 4602678819172646912, .float .f64 4652007308841189376, .int .i64 5, .int .i64 4, .float .f64 4621819117588971520, .float .f64 4602678819172646912, .float .f64 4652007308841189376, .int .i64 7, .int .i64 4] 24)).alloc (.cells #[.int .i64 2, .int .i64 0] 2)).alloc (.cells #[.int .i64 3] 2)).alloc (.cells #[.slice (some ⟨w4.heap.size + 1, 0, none⟩) 2 2, .slice (some ⟨w4.heap.size + 1 + 1, 0, none⟩) 1 1] 39)) := ⟨_, rfl⟩
  rw [← h5] at K5 WB ⊢
  clear h5 K4
  refine (resolve_walk _ 2 2 wkB _ 2 2 wkC 0 40 w5 WB.1 WB.2).mono ?_
  rintro e w6 ⟨vx, rfl, ox, b6⟩
  rw [wk_res] at ox ⊢
  obtain ⟨gx, cx, rfl, lx, x0, x1⟩ : ∃ gx cx, vx = .slice (some ⟨gx, 0, none⟩) 2 cx ∧ gx < w6.heap.size ∧ w6.cell? ⟨gx, 0, none⟩ = some (.int .i64 10) ∧ w6.cell? ⟨gx, 1, none⟩ = some (.int .i64 17) := by
    rcases ox.2 with ⟨_, h0⟩ | ⟨g, cap, cur, rfl, _, hb, _⟩
    · simp at h0
    · exact ⟨g, cap, rfl, (Array.getElem?_eq_some_iff.1 hb).1, by have := ox.cells (g := g) rfl 0 (.int .i64 10) rfl; simpa [Addr.add_lit] using this, by have := ox.cells (g := g) rfl 1 (.int .i64 17) rfl; simpa [Addr.add_lit] using this⟩
  have K6 := Lib.hid (K5.out.keep b6)
  clear WB K5 ox b6
  go_wp2_with fail
  have bA := al_below w6 (.cells #[.float .f64 4629137466983448576, .float .f64 0, .float .f64 4611686018427387904, .float .f64 0, .float .f64 0, .float .f64 4622945017495814144, .float .f64 0, .float .f64 4607182418800017408, .float .f64 0, .float .f64 0, .float .f64 4621819117588971520, .float .f64 0, .float .f64 4613937818241073152, .float .f64 0, .float .f64 0] 28)
  have SP := Lib.hid (wk_sp w6)
  have K7 := Lib.hid (K6.out.keep bA)
  have x0 := (bA.cell (p := ⟨gx, 0, none⟩) lx).trans x0
  have x1 := (bA.cell (p := ⟨gx, 1, none⟩) lx).trans x1
  have lx := Nat.lt_of_lt_of_le lx bA.size
  refine (wk_ord _ _ _ SP.out).mono ?_
  rintro e w8 ⟨go, rfl, hgo, dio, b8⟩
  have K8 := Lib.hid (K7.out.keep b8)
  have S8 := Lib.hid (SP.out.keep b8)
  have x0 := (b8.cell (p := ⟨gx, 0, none⟩) lx).trans x0
  have x1 := (b8.cell (p := ⟨gx, 1, none⟩) lx).trans x1
  have lx := Nat.lt_of_lt_of_le lx b8.size
  have y0 := dio.cell (j := 0) (x := 2) rfl
  have y1 := dio.cell (j := 1) (x := 0) rfl
  have ly := dio.lt
  have Z6 := Lib.hid (show w6.heap.size < w8.heap.size from Nat.lt_of_lt_of_le (by simp) b8.size)
  clear bA K6 K7 SP dio hgo b8
  go_wp2_with fail
  refine (merge_walk _ 3 3 wk3 [2, 0, 1] 4617315517961601024 4607182418800017408 w8 S8.out (fun q hq => by cases hq; exact Z6.out) (wk_ord _ _) rfl (by decide) (by omega)).mono ?_
  rintro e w9 ⟨vm, L, rfl, ow, hms, b9⟩
  rw [wk_m0] at hms
  have K9 := Lib.hid (K8.out.keep b9)
  have x0 := (b9.cell (p := ⟨gx, 0, none⟩) lx).trans x0
  have x1 := (b9.cell (p := ⟨gx, 1, none⟩) lx).trans x1
  have lx := Nat.lt_of_lt_of_le lx b9.size
  have y0 := (b9.cell (p := ⟨go, 0, none⟩) ly).trans y0
  have y1 := (b9.cell (p := ⟨go, 1, none⟩) ly).trans y1
  have ly := Nat.lt_of_lt_of_le ly b9.size
  obtain ⟨gm, cm, rfl, lm, m0, m1⟩ : ∃ gm cm, vm = .slice (some ⟨gm, 0, none⟩) 2 cm ∧ gm < w9.heap.size ∧ w9.cell? ⟨gm, 2, none⟩ = some (.float .f64 4616189618054758400) ∧ w9.cell? ⟨gm, 5, none⟩ = some (.float .f64 4629137466983448576) := by
    obtain ⟨hl, hm⟩ := hms
    match L, hl with
    | [p, q], _ =>
      obtain ⟨x, hp, hx, _⟩ := hm 0 p _ rfl rfl
      obtain ⟨y, hq, _, _⟩ := hm 1 q _ rfl rfl
      have hx2 : x = 4616189618054758400 := by
        have e : sumP [4613937818241073152, 4607182418800017408] = 4616189618054758400 := by decide +kernel
        rw [e] at hx
        rcases hx with ⟨_, h⟩ | ⟨h, _⟩
        · exact absurd h (by decide +kernel)
        · exact h
      subst hx2
      have p2 : p.power = 4616189618054758400 := by rw [hp]
      have q0 : q.range = 4629137466983448576 := by rw [hq]; rfl
      rcases ow.2 with ⟨_, h0⟩ | ⟨g, cap, cur, rfl, _, hb, _⟩
      · simp at h0
      · exact ⟨g, cap, rfl, (Array.getElem?_eq_some_iff.1 hb).1, by have := ow.cells (g := g) rfl 2 (.float .f64 p.power) rfl; rw [p2] at this; simpa [Addr.add_lit] using this, by have := ow.cells (g := g) rfl 5 (.float .f64 q.range) rfl; rw [q0] at this; simpa [Addr.add_lit] using this⟩
  have pb := K9.out.p
  have lq := (Array.getElem?_eq_some_iff.1 pb).1
  have q0 := cell_of_heap pb 0
  have q1 := cell_of_heap pb 1
  have q2 := cell_of_heap pb 2
  have q4 := cell_of_heap pb 4
  simp only [List.getElem?_toArray, List.getElem?_cons_zero, List.getElem?_cons_succ] at q0 q1 q2 q4
  clear pb K8 S8 hms ow b9 Z6
  go_wp2_with fail
  go_ret
  exact ⟨rfl, K9.out.b⟩
end Go.Proofs.Ytdngkeefbpffcaa
