/-
  What is proved: for every beat, centre and time the law PlotsOne returns true, and its arguments read as before. No conditions.
-/
import Derived.Test.YtdngkeefbpffcaaPlZ
import Derived.Test.YtdngkeefbpffcaaRows
set_option autoImplicit false
set_option linter.unusedVariables false
namespace Go.Proofs.Ytdngkeefbpffcaa
open Go.RowKit Go.ChangeShapes Go.WideShapes Go.ChangeAt Lk Pl
/-- a plot in a block of its own -/
def Pb (wx : World) (g : Nat) (q : Pt) : Prop := wx.heap[g]? = some (.cells #[.float .f64 q.range, .float .f64 q.speed, .float .f64 q.power, .float .f64 q.bearing, .float .f64 q.time] 28 (0, 0))
theorem Pb.keep {wx w' : World} {g : Nat} {q : Pt} (h : Pb wx g q) (b : Below wx.heap.size wx w') : Pb w' g q := (b.block _ (Array.getElem?_eq_some_iff.1 h).1).trans h
theorem Pb.lt {wx : World} {g : Nat} {q : Pt} (h : Pb wx g q) : g < wx.heap.size := (Array.getElem?_eq_some_iff.1 h).1
theorem sameF_sym {x y : Nat} (h : Is x y) : sameF y x = true := sameF_is h.symm
theorem same_of {c v r : Nat} {e n : Int} {bin gate pow time : Nat} {p q : Pt} (h : Is p.range (oneO c v r e n bin gate pow time).range ∧ p.range < 2 ^ 64 ∧ ∀ x, { p with range := x } = { oneO c v r e n bin gate pow time with range := x })
    (k : Is q.range (oneO c v r e n bin gate pow time).range ∧ q.range < 2 ^ 64 ∧ ∀ x, { q with range := x } = { oneO c v r e n bin gate pow time with range := x }) : sameP p q = true := by
  obtain ⟨h1, _, h2⟩ := h
  obtain ⟨k1, _, k2⟩ := k
  have e0 := (h2 0).trans (k2 0).symm
  obtain ⟨p0, p1, p2, p3, p4⟩ := p
  obtain ⟨q0, q1, q2, q3, q4⟩ := q
  simp only [Pt.mk.injEq, true_and] at e0
  obtain ⟨rfl, rfl, rfl, rfl⟩ := e0
  unfold sameP
  simp only [sameF_is (h1.trans k1.symm), sameF_is (Is.refl _), Bool.and_self]
set_option maxRecDepth 100000 in
set_option maxHeartbeats 4000000 in
theorem one_law (c v r : Nat) (e n : Int) (bin gate pow : Nat) (sp : Int) (time : Nat) (w : World) (h1 : -9223372036854775808 ≤ e) (h2 : e ≤ 9223372036854775807) (h3 : -9223372036854775808 ≤ n) (h4 : n ≤ 9223372036854775807) (hb : bin < 2 ^ 64) (hg : gate < 2 ^ 64) (hp : pow < 2 ^ 64) (ht : time < 2 ^ 64) :
    Calls Try.prog 3 #[btv c v r e n, .agg #[.float .f64 bin, .float .f64 gate, .float .f64 pow, .int .i64 sp], .float .f64 time] w (fun e w' => e = .returned (.bool true) ∧ Below w.heap.size w w') := by
  have O1 := Lib.hid (fun w => one_walk c v r e n bin gate pow time sp w h1 h2 h3 h4 hb hg hp ht)
  have O2 := Lib.hid (fun w => rone_walk c v r e n bin gate pow time sp w h1 h2 h3 h4 hb hg hp ht)
  go_enter Try.func3, Try.ntmps3
  go_wp2_with fail
  refine (O1.out _).mono ?_
  rintro e' w1 ⟨p, rfl, ho, b1⟩
  have HO := Lib.hid ho
  have bA : Below w.heap.size w ((w.alloc (.cells #[.float .f64 c, .float .f64 v, .float .f64 r, .int .i64 e, .int .i64 n] 24)).alloc (.cells #[.float .f64 bin, .float .f64 gate, .float .f64 pow, .int .i64 sp] 26)) := by (repeat' (first | exact Below.refl _ _ | refine below_drewN ?_ _ | refine Below.setCell ?_ (by first | exact Nat.le_refl _ | (simp; done) | (simp; omega)) _ | refine Below.alloc ?_ (by first | exact Nat.le_refl _ | (simp; done) | (simp; omega)) _))
  have x0 : ((w.alloc (.cells #[.float .f64 c, .float .f64 v, .float .f64 r, .int .i64 e, .int .i64 n] 24)).alloc (.cells #[.float .f64 bin, .float .f64 gate, .float .f64 pow, .int .i64 sp] 26)).heap[w.heap.size]? = some (.cells #[.float .f64 c, .float .f64 v, .float .f64 r, .int .i64 e, .int .i64 n] 24 (0, 0)) := by rw [Deep.blk_alloc_lt _ _ _ (by simp), Deep.blk_alloc_new]
  have x1 : ((w.alloc (.cells #[.float .f64 c, .float .f64 v, .float .f64 r, .int .i64 e, .int .i64 n] 24)).alloc (.cells #[.float .f64 bin, .float .f64 gate, .float .f64 pow, .int .i64 sp] 26)).heap[w.heap.size + 1]? = some (.cells #[.float .f64 bin, .float .f64 gate, .float .f64 pow, .int .i64 sp] 26 (0, 0)) := by
    have := Deep.blk_alloc_new (w.alloc (.cells #[.float .f64 c, .float .f64 v, .float .f64 r, .int .i64 e, .int .i64 n] 24)) (.cells #[.float .f64 bin, .float .f64 gate, .float .f64 pow, .int .i64 sp] 26)
    simpa using this
  have X0 := (b1.block _ (by simp; omega)).trans x0
  have X1 := (b1.block _ (by simp)).trans x1
  have B1 := Lib.hid (bA.trans (b1.mono (by simp; omega)))
  have l0 := (Array.getElem?_eq_some_iff.1 X0).1
  have l1 := (Array.getElem?_eq_some_iff.1 X1).1
  have c0 := cell_of_heap X0 0
  have c1 := cell_of_heap X0 1
  have c2 := cell_of_heap X0 2
  have c3 := cell_of_heap X0 3
  have c4 := cell_of_heap X0 4
  have d0 := cell_of_heap X1 0
  have d1 := cell_of_heap X1 1
  have d2 := cell_of_heap X1 2
  have d3 := cell_of_heap X1 3
  simp only [List.getElem?_toArray, List.getElem?_cons_zero, List.getElem?_cons_succ] at c0 c1 c2 c3 c4 d0 d1 d2 d3
  clear bA x0 x1 X0 X1 b1 ho
  go_wp2_with fail
  have P1 : Hid (Pb (w1.alloc (.cells #[.float .f64 p.range, .float .f64 p.speed, .float .f64 p.power, .float .f64 p.bearing, .float .f64 p.time] 28)) w1.heap.size p) := Lib.hid (Deep.blk_alloc_new _ _)
  have B2 := Lib.hid (B1.out.trans ((al_below w1 (.cells #[.float .f64 p.range, .float .f64 p.speed, .float .f64 p.power, .float .f64 p.bearing, .float .f64 p.time] 28)).mono B1.out.size))
  refine (O2.out _).mono ?_
  rintro e' w2 ⟨q, rfl, ho, b2⟩
  have SM := Lib.hid (same_of HO.out ho)
  have P2 := Lib.hid (P1.out.keep b2)
  have B3 := Lib.hid (B2.out.trans (b2.mono B2.out.size))
  obtain ⟨gp, hgp⟩ : ∃ gp, gp = w1.heap.size := ⟨_, rfl⟩
  rw [← hgp] at P2 ⊢
  have p0 := cell_of_heap P2.out 0
  have p1 := cell_of_heap P2.out 1
  have p2 := cell_of_heap P2.out 2
  have p3 := cell_of_heap P2.out 3
  have p4 := cell_of_heap P2.out 4
  simp only [List.getElem?_toArray, List.getElem?_cons_zero, List.getElem?_cons_succ] at p0 p1 p2 p3 p4
  have lp := P2.out.lt
  clear ho b2 hgp c0 c1 c2 c3 c4 d0 d1 d2 d3 l0 l1 P1 B1 B2 HO O1 O2
  go_wp2_with fail
  refine (sameplot_walk p q _).mono ?_
  rw [SM.out]
  rintro e' w3 ⟨rfl, b3⟩
  have B4 := Lib.hid (B3.out.trans (((al_below w2 (.cells #[.float .f64 q.range, .float .f64 q.speed, .float .f64 q.power, .float .f64 q.bearing, .float .f64 q.time] 28)).trans (b3.mono (by simp))).mono B3.out.size))
  clear b3 p0 p1 p2 p3 p4 lp
  go_wp2_with fail
  refine (wakes_walk _).mono ?_
  rintro e' w4 ⟨rfl, b4⟩
  have B5 := Lib.hid (B4.out.trans (b4.mono B4.out.size))
  clear b4
  go_wp2_with fail
  go_ret
  exact ⟨rfl, B5.out⟩
set_option maxRecDepth 100000 in
theorem one_args (W : World) (base : Nat) (args : Array Value) (hsz : args.size = Try.f3.params.size) (hval : ∀ (j : Nat) t v, Try.f3.params[j]? = some t → args[j]? = some v → Value.okWide Try.prog W .any base t v) :
    Calls Try.prog 3 args W (fun e w' => e = .returned (.bool true) ∧ Below W.heap.size W w') := by
  rw [Try.params3] at hval hsz
  obtain ⟨l⟩ := args
  match l, hsz with
  | [v0, v1, v2], _ =>
    obtain ⟨c, v, r, e, n, rfl, g1, g2, g3, b1, b2, b3, b4⟩ := beat_of (hval 0 24 v0 rfl rfl)
    obtain ⟨cb1, cg1, cp1, cn1, rfl, hb1, hg1, hp1⟩ := centre_of (hval 1 26 v1 rfl rfl)
    obtain ⟨x2, rfl, hx2⟩ := ok_float (t := 22) Try.underlying22 (hval 2 22 v2 rfl rfl)
    exact one_law c v r e n cb1 cg1 cp1 cn1 x2 W b1 b2 b3 b4 hb1 hg1 hp1 hx2

set_option maxRecDepth 100000 in
theorem one_lifted (os : Os) (started : os.Started) (H : Type) (enc : TypeId × Value → H) :
    ReturnsInHanded {} Try.checked os 3 .any (Rows.plotsOneSpec.pre6 enc Try.prog Try.f3 Rows.plotsOneRow.domain false) (Rows.plotsOneSpec.post enc Try.prog Try.f3 false true false false) :=
  law_lifted (C := Try.checked) Try.own started (by kernel_rfl) Try.func3
    (ChangeSpec.witness6 (enc := enc) (C := Try.checked) false ⟨#[], #[.agg #[.float .f64 0, .float .f64 0, .float .f64 0, .int .i64 0, .int .i64 0], .agg #[.float .f64 0, .float .f64 0, .float .f64 0, .int .i64 0], .float .f64 0], []⟩ 8 (by kernel_rfl) (by kernel_rfl) (by kernel_rfl) (by kernel_rfl))
    Try.laidOut (fun t ht => by have ht2 : t ∈ Try.f3.params.toList := ht; rw [Try.params3] at ht2; simp only [List.mem_cons, List.not_mem_nil, or_false] at ht2; rcases ht2 with rfl | rfl | rfl <;> exact ⟨by kernel_rfl, of_decide_eq_true (by kernel_rfl)⟩)
    rfl Try.underlying4 rfl (fun ds hd => by have hd2 : ds.length = Try.f3.params.size := hd; rw [Try.params3] at hd2; match ds, hd2 with | [d0, d1, d2], _ => exact ⟨rfl, rfl, rfl⟩) one_args

theorem one_holds : Rows.PlotsOneSaid :=
  OpenClaim.holds_of_wide 3 Try.f3 rfl rfl rfl rfl rfl rfl rfl ⟨rfl, rfl, rfl, rfl, rfl⟩ rfl rfl rfl rfl rfl (by kernel_rfl) Try.func3 (by kernel_rfl)
    (of_decide_eq_true (by kernel_rfl)) (by unfold Func.isWrapper; first | (rw [if_pos (by decide +kernel)]; kernel_rfl) | (rw [if_neg (by decide +kernel)]; exact ⟨rfl, rfl⟩))
    (fun os started H enc _ => one_lifted os started H enc)
#print axioms one_holds
end Go.Proofs.Ytdngkeefbpffcaa
