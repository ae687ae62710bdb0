/-
  What is proved: for all small whole numbers the law StateExact returns true (ahead by t and then by u is ahead by t + u, where all is exact), and its arguments read as before. No conditions.
-/
import Derived.Test.YtjpddkojclgkmaaStI
import Derived.Test.YtjpddkojclgkmaaFlL
import Derived.Test.YtjpddkojclgkmaaFlG
import Derived.Test.YtjpddkojclgkmaaRows
import Derived.ProofKit
import Derived.OpenShut
import Derived.WalkKit
import Derived.WalkLawsBesides
import Derived.WalkSpells
import Derived.BigQuiet
import Derived.Lib.Hide
import Derived.Outline
set_option autoImplicit false
set_option linter.unusedVariables false
namespace Go.Proofs.Ytjpddkojclgkmaa
open Go.RowKit Go.ChangeShapes Go.WideShapes Go.ChangeAt Lk

theorem Try.own : ownKnob Try.prog.godebug = none := by kernel_rfl
theorem Try.laidOut : laidOutB Try.prog = true := by kernel_rfl

def TE : FuncId → Array Value → Value → World → Prop := fun f args u _ =>
  (f = 23 → ∃ n lo hi r k, args = #[.int .i32 n, .int .i64 lo, .int .i64 hi] ∧ u = .float .f64 r ∧ V r k ∧ lo ≤ k ∧ k ≤ hi ∧ r < 2 ^ 64) ∧
  (f = 15 → ∃ a b c d g t q a' b' c' d' g', args = #[stv a b c d g, .float .f64 t, .float .f64 q] ∧ u = stv a' b' c' d' g' ∧ IsS ⟨a', b', c', d', g'⟩ (aheadF ⟨a, b, c, d, g⟩ t q) ∧ St.Lt ⟨a', b', c', d', g'⟩) ∧
  (f = 20 → u = .bool true)

theorem te23 {n lo hi r k : Int} {u : Value} {x : Nat} (hu : u = .float .f64 x) (hv : V x k) (h1 : lo ≤ k) (h2 : k ≤ hi) (h3 : x < 2 ^ 64) (w : World) : TE 23 #[.int .i32 n, .int .i64 lo, .int .i64 hi] u w :=
  ⟨fun _ => ⟨n, lo, hi, x, k, rfl, hu, hv, h1, h2, h3⟩, fun h => absurd h (by decide), fun h => absurd h (by decide)⟩
theorem small_a_te (n : Int) (w : World) (h : -2147483648 ≤ n ∧ n ≤ 2147483647) : Calls Try.prog 23 #[.int .i32 n, .int .i64 (-1048576), .int .i64 1048576] w
    (fun e w' => ∃ u, e = .returned u ∧ TE 23 #[.int .i32 n, .int .i64 (-1048576), .int .i64 1048576] u w' ∧ Below w.heap.size w w') :=
  (small_a n w h.1 h.2).mono fun e w' ⟨r, k, he, ⟨hv, a, b, _, c⟩, hw⟩ => ⟨_, he, te23 (r := 0) rfl hv a b c _, hw ▸ Below.refl _ _⟩
theorem small_b_te (n : Int) (w : World) (h : -2147483648 ≤ n ∧ n ≤ 2147483647) : Calls Try.prog 23 #[.int .i32 n, .int .i64 0, .int .i64 1048576] w
    (fun e w' => ∃ u, e = .returned u ∧ TE 23 #[.int .i32 n, .int .i64 0, .int .i64 1048576] u w' ∧ Below w.heap.size w w') :=
  (small_b n w h.1 h.2).mono fun e w' ⟨r, k, he, ⟨hv, a, b, _, c⟩, hw⟩ => ⟨_, he, te23 (r := 0) rfl hv a b c _, hw ▸ Below.refl _ _⟩
def SM (lo hi : Int) (r : Nat) : Prop := ∃ k, V r k ∧ lo ≤ k ∧ k ≤ hi ∧ r < 2 ^ 64
theorem te23_out {n lo hi : Int} {u : Value} {w : World} (h : TE 23 #[.int .i32 n, .int .i64 lo, .int .i64 hi] u w) : ∃ r, u = .float .f64 r ∧ SM lo hi r := by
  obtain ⟨n', lo', hi', r, k, ha, hu, hv, a, b, c⟩ := h.1 rfl
  simp only [List.toArray, Array.mk.injEq, List.cons.injEq, Value.int.injEq, and_true, true_and] at ha
  obtain ⟨_, rfl, rfl⟩ := ha
  exact ⟨r, hu, k, hv, a, b, c⟩
theorem ahead_te (a b c d g t q : Nat) (w : World) (hl : St.Lt ⟨a, b, c, d, g⟩) : Calls Try.prog 15 #[stv a b c d g, .float .f64 t, .float .f64 q] w
    (fun e w' => ∃ u, e = .returned u ∧ TE 15 #[stv a b c d g, .float .f64 t, .float .f64 q] u w' ∧ Below w.heap.size w w') :=
  (ahead_walk a b c d g t q w hl).mono fun e w' ⟨a', b', c', d', g', he, ⟨hs, hlt⟩, hb⟩ => ⟨_, he, ⟨fun h => absurd h (by decide), fun _ => ⟨a, b, c, d, g, t, q, a', b', c', d', g', rfl, rfl, hs, hlt⟩, fun h => absurd h (by decide)⟩, hb⟩
theorem te15_out {a b c d g t q : Nat} {u : Value} {w : World} (h : TE 15 #[stv a b c d g, .float .f64 t, .float .f64 q] u w) : ∃ a' b' c' d' g', u = stv a' b' c' d' g' ∧ IsS ⟨a', b', c', d', g'⟩ (aheadF ⟨a, b, c, d, g⟩ t q) ∧ St.Lt ⟨a', b', c', d', g'⟩ := by
  obtain ⟨a0, b0, c0, d0, g0, t0, q0, a', b', c', d', g', ha, hu, hs, hl⟩ := h.2.1 rfl
  simp only [stv, List.toArray, Array.mk.injEq, List.cons.injEq, Value.agg.injEq, Value.float.injEq, and_true, true_and] at ha
  obtain ⟨⟨rfl, rfl, rfl, rfl, rfl⟩, rfl, rfl⟩ := ha
  exact ⟨a', b', c', d', g', hu, hs, hl⟩
theorem wakes_te (w : World) : Calls Try.prog 20 #[] w (fun e w' => ∃ u, e = .returned u ∧ TE 20 #[] u w' ∧ Below w.heap.size w w') :=
  (wakes_walk w).mono fun e w' ⟨he, hb⟩ => ⟨_, he, ⟨fun h => absurd h (by decide), fun h => absurd h (by decide), fun _ => rfl⟩, hb⟩

set_option maxHeartbeats 1000000 in
theorem exact_law (n0 n1 n2 n3 n4 t u : Int) (w : World) (h0 : -2147483648 ≤ n0 ∧ n0 ≤ 2147483647) (h1 : -2147483648 ≤ n1 ∧ n1 ≤ 2147483647) (h2 : -2147483648 ≤ n2 ∧ n2 ≤ 2147483647) (h3 : -2147483648 ≤ n3 ∧ n3 ≤ 2147483647) (h4 : -2147483648 ≤ n4 ∧ n4 ≤ 2147483647)
    (ht : 0 ≤ t ∧ t < 256) (hu : 0 ≤ u ∧ u < 256) :
    Calls Try.prog 5 #[.agg #[.int .i32 n0, .int .i32 n1, .int .i32 n2, .int .i32 n3, .int .i32 n4], .int .u8 t, .int .u8 u] w (fun e w' => e = .returned (.bool true) ∧ Below w.heap.size w w') := by
  have H0 := Lib.hid h0
  have H1 := Lib.hid h1
  have H2 := Lib.hid h2
  have H3 := Lib.hid h3
  have H4 := Lib.hid h4
  clear h0 h1 h2 h3 h4
  obtain ⟨ht1, ht2⟩ := ht
  obtain ⟨hu1, hu2⟩ := hu
  go_enter Try.func5, Try.ntmps5
  go_wp2_with fail
  refine wp_region_G_tail 17 TE (by kernel_rfl) (by kernel_rfl) ?_
  simp only [List.take_succ_cons, List.take_zero, List.drop_succ_cons, List.drop_zero]
  repeat' (refine wpG_step' (fun K hA hK => ?_); go_simp; first | (refine bothG_value hA (v := ?_) (fun w' hw' => ?_) ?_; rotate_left; (· go_simp; rfl); (refine hK _ _ ?_; clear hK hA K)) | (refine bothG_alloc (ob := ?_) (fun w' => ?_) ?_; rotate_left; (· go_simp; rfl); (intro n x hn1 hn2 hn3; refine hK _ _ ?_; clear hK hA K)) | (refine bothG_call (f := 23) (args := ?_) (fun w' => ?_) (fun w' _ => ?_) ?_; rotate_left; (· go_simp; rfl); (· first | with_reducible exact small_a_te _ _ H0.out | with_reducible exact small_a_te _ _ H1.out | with_reducible exact small_b_te _ _ H2.out | with_reducible exact small_b_te _ _ H3.out | with_reducible exact small_b_te _ _ H4.out); (intro u x hu; obtain ⟨r, rfl, hs⟩ := te23_out hu; clear hu; refine hK _ _ ?_; clear hK hA K)))
  refine wpG_nil ?_
  intro w1 hb1 hF
  have hn4 := hF.2.block _ hn2
  rw [hn3] at hn4
  have hn5 : n < w1.heap.size := Nat.lt_of_lt_of_le hn2 hF.2.size
  have hb1' : Below w.heap.size w w1 := ((Below.refl _ w).alloc (Nat.le_refl _) _).trans (hb1.mono (by simp))
  have hn6 : w.heap.size ≤ n := by simp at hn1; omega
  clear hF hn3 hn2 hb1 hn1
  refine wpList_store_new rfl (ty := 24) (x := .tmp 7) (y := .tmp 25) rfl (g := n) rfl rfl hn4 (by kernel_rfl) rfl (by simp [Value.oneCell']) hb1' hn6 ?_
  intro w2 hg2 hb2 hz2 _
  obtain ⟨r0, r1, r2, r3, r4, hg2, s0, s1, s2, s3, s4⟩ : ∃ r0 r1 r2 r3 r4, w2.heap[n]? = some (.cells #[.float .f64 r0, .float .f64 r1, .float .f64 r2, .float .f64 r3, .float .f64 r4] 24 (0, 0)) ∧
    SM (-1048576) 1048576 r0 ∧ SM (-1048576) 1048576 r1 ∧ SM 0 1048576 r2 ∧ SM 0 1048576 r3 ∧ SM 0 1048576 r4 := ⟨_, _, _, _, _, hg2, by assumption, by assumption, by assumption, by assumption, by assumption⟩
  have c0 := cell_of_heap hg2 0
  have c1 := cell_of_heap hg2 1
  have c2 := cell_of_heap hg2 2
  have c3 := cell_of_heap hg2 3
  have c4 := cell_of_heap hg2 4
  simp at c0 c1 c2 c3 c4
  have hnz : n < w2.heap.size := by omega
  obtain ⟨k0, v0, a0, b0, l0⟩ := s0
  obtain ⟨k1, v1, a1, b1, l1⟩ := s1
  obtain ⟨k2, v2, a2, b2, l2⟩ := s2
  obtain ⟨k3, v3, a3, b3, l3⟩ := s3
  obtain ⟨k4, v4, a4, b4, l4⟩ := s4
  have HL : Hid (St.Lt ⟨r0, r1, r2, r3, r4⟩) := ⟨l0, l1, l2, l3, l4⟩
  have HV : Hid (VS ⟨r0, r1, r2, r3, r4⟩ k0 k1 k2 k3 k4) := ⟨v0, v1, v2, v3, v4⟩
  have HB : Hid (k0.natAbs ≤ 2 ^ 20 ∧ k1.natAbs ≤ 2 ^ 20 ∧ 0 ≤ k2 ∧ k2 ≤ 2 ^ 20 ∧ 0 ≤ k3 ∧ k3 ≤ 2 ^ 20 ∧ 0 ≤ k4 ∧ k4 ≤ 2 ^ 20) := ⟨by omega, by omega, by omega, by omega, by omega, by omega, by omega, by omega⟩
  clear hg2 hn4 hz2 l0 l1 l2 l3 l4 v0 v1 v2 v3 v4 a0 b0 a1 b1 a2 b2 a3 b3 a4 b4
  have hte : 1 ≤ t % 16 + 1 ∧ t % 16 + 1 ≤ 16 := by omega
  have hue : 1 ≤ u % 16 + 1 ∧ u % 16 + 1 ≤ 16 := by omega
  have HT := Lib.hid (V.ofInt (n := t % 16 + 1) (by omega))
  have HU := Lib.hid (V.ofInt (n := u % 16 + 1) (by omega))
  have HTE := Lib.hid hte
  have HUE := Lib.hid hue
  clear hte hue
  go_wp2_with fail
  refine wp_region_G TE (by kernel_rfl) (by kernel_rfl) ?_
  iterate 10 (refine wpG_step' (fun K hA hK => ?_); go_simp; first | (refine bothG_float hA (x := ?_) (y := ?_) (X := ?_) (Y := ?_) rfl ?_ ?_ ?_ ?_ ?_ ?_; rotate_left 4; (· rfl); (· rfl); (· rfl); (· first | assumption | exact Is.refl _); (· first | assumption | exact Is.refl _); intro v hv hl; refine hK _ _ ?_; clear hK hA K) | (refine bothG_value hA (v := ?_) (fun w' hw' => ?_) ?_; rotate_left; (· go_simp; rfl); (refine hK _ _ ?_; clear hK hA K)) | (refine bothG_call (f := 15) (args := ?_) (fun w' => ?_) (fun w' _ => ?_) ?_; rotate_left; (· go_simp; rfl); (· with_reducible exact ahead_te _ _ _ _ _ _ _ _ (by first | exact HL.out | assumption)); (intro u x hu; obtain ⟨a', b', c', d', g', rfl, hs, hl⟩ := te15_out hu; clear hu; refine hK _ _ ?_; clear hK hA K)))
  have htu : V v ((t % 16 + 1) + (u % 16 + 1)) := by
    have h1 := HT.out.1.add HU.out.1 (by have := HTE.out; have := HUE.out; omega)
    have h2 : v = fadd _ _ := Is.eq hv h1.1.not_nan
    rw [h2]; exact h1
  obtain ⟨f1, f2, f3, f4, f5⟩ := ahead_both HV.out HT.out.1 HU.out.1 htu HTE.out.1 HTE.out.2 HUE.out.1 HUE.out.2 HB.out.1 HB.out.2.1 HB.out.2.2.1 HB.out.2.2.2.1 HB.out.2.2.2.2.1 HB.out.2.2.2.2.2.1 HB.out.2.2.2.2.2.2.1 HB.out.2.2.2.2.2.2.2
    ‹IsS _ (aheadF ⟨r0, r1, r2, r3, r4⟩ (floatOfInt .f64 (t % 16 + 1)) 0)› ‹IsS _ (aheadF _ (floatOfInt .f64 (u % 16 + 1)) 0)› ‹IsS _ (aheadF ⟨r0, r1, r2, r3, r4⟩ v 0)›
  unfold ceq at f1 f2 f3 f4 f5
  have q1 := fun x y (w : World) => run_equalIn_float (P := Try.prog) 9998 x y w Try.underlying22
  simp only [Nat.reduceAdd, fmt64] at q1
  repeat' (refine wpG_step' (fun K hA hK => ?_); go_simp; first | (refine bothG_value hA (v := ?_) (fun w' hw' => ?_) ?_; rotate_left; (· go_simp; rfl); (refine hK _ _ ?_; clear hK hA K)) | (refine bothG_call (f := 20) (args := ?_) (fun w' => ?_) (fun w' _ => ?_) ?_; rotate_left; (· go_simp; rfl); (· with_reducible exact wakes_te _); (intro u x hu; obtain rfl := hu.2.2 rfl; refine hK _ _ ?_; clear hK hA K)))
  refine wpG_nil ?_
  intro w3 hb3 _
  go_wp2
  go_ret
  exact ⟨rfl, hb2.trans (hb3.mono hb2.size)⟩

theorem exact_args (W : World) (base : Nat) (args : Array Value) (hsz : args.size = Try.f5.params.size) (hval : ∀ (j : Nat) t v, Try.f5.params[j]? = some t → args[j]? = some v → Value.okWide Try.prog W .any base t v) :
    Calls Try.prog 5 args W (fun e w' => e = .returned (.bool true) ∧ Below W.heap.size W w') := by
  rw [Try.params5] at hval hsz
  obtain ⟨l⟩ := args
  match l, hsz with
  | [v0, v1, v2], _ =>
    obtain ⟨cs, rfl, hcs, hc⟩ := ok_agg (P := Try.prog) (t := 37) (ts := [21, 21, 21, 21, 21]) (by kernel_rfl) (by kernel_rfl) (by kernel_rfl) (hval 0 37 v0 rfl rfl)
    obtain ⟨cl⟩ := cs
    match cl, hcs with
    | [c0, c1, c2, c3, c4], _ =>
      obtain ⟨n0, rfl, a0⟩ := cell_int Try.underlying21 (hc 0 _ _ rfl rfl)
      obtain ⟨n1, rfl, a1⟩ := cell_int Try.underlying21 (hc 1 _ _ rfl rfl)
      obtain ⟨n2, rfl, a2⟩ := cell_int Try.underlying21 (hc 2 _ _ rfl rfl)
      obtain ⟨n3, rfl, a3⟩ := cell_int Try.underlying21 (hc 3 _ _ rfl rfl)
      obtain ⟨n4, rfl, a4⟩ := cell_int Try.underlying21 (hc 4 _ _ rfl rfl)
      obtain ⟨t, rfl, t1, t2⟩ := ok_int Try.underlying5 (hval 1 5 v1 rfl rfl)
      obtain ⟨u, rfl, u1, u2⟩ := ok_int Try.underlying5 (hval 2 5 v2 rfl rfl)
      have e1 : IntKind.u8.min = 0 := by decide
      have e2 : IntKind.u8.max = 255 := by decide
      have e3 : IntKind.i32.min = -2147483648 := by decide
      have e4 : IntKind.i32.max = 2147483647 := by decide
      rw [e1] at t1 u1
      rw [e2] at t2 u2
      rw [e3, e4] at a0 a1 a2 a3 a4
      exact exact_law n0 n1 n2 n3 n4 t u W a0 a1 a2 a3 a4 ⟨t1, by omega⟩ ⟨u1, by omega⟩

set_option maxRecDepth 100000 in
theorem exact_lifted (os : Os) (started : os.Started) (H : Type) (enc : TypeId × Value → H) :
    ReturnsInHanded {} Try.checked os 5 .any (Rows.stateExactSpec.pre6 enc Try.prog Try.f5 Rows.stateExactRow.domain false) (Rows.stateExactSpec.post enc Try.prog Try.f5 false true false false) :=
  law_lifted (C := Try.checked) Try.own started (by kernel_rfl) Try.func5
    (ChangeSpec.witness6 (enc := enc) (C := Try.checked) false ⟨#[], #[.agg #[.int .i32 0, .int .i32 0, .int .i32 0, .int .i32 0, .int .i32 0], .int .u8 0, .int .u8 0], []⟩ 8 (by kernel_rfl) (by kernel_rfl) (by kernel_rfl) (by kernel_rfl))
    Try.laidOut (fun t ht => by have ht2 : t ∈ Try.f5.params.toList := ht; rw [Try.params5] at ht2; simp only [List.mem_cons, List.not_mem_nil, or_false, or_self] at ht2; rcases ht2 with rfl | rfl <;> exact ⟨by kernel_rfl, of_decide_eq_true (by kernel_rfl)⟩)
    rfl Try.underlying4 rfl (fun ds hd => by have hd2 : ds.length = Try.f5.params.size := hd; rw [Try.params5] at hd2; match ds, hd2 with | [d1, d2, d3], _ => exact ⟨rfl, rfl, rfl⟩) exact_args

theorem exact_holds : Rows.StateExactSaid :=
  OpenClaim.holds_of_wide 5 Try.f5 rfl rfl rfl rfl rfl rfl rfl ⟨rfl, rfl, rfl, rfl, rfl⟩ rfl rfl rfl rfl rfl (by kernel_rfl) Try.func5 (by kernel_rfl)
    (of_decide_eq_true (by kernel_rfl)) (by unfold Func.isWrapper; first | (rw [if_pos (by decide +kernel)]; kernel_rfl) | (rw [if_neg (by decide +kernel)]; exact ⟨rfl, rfl⟩))
    (fun os started H enc _ => exact_lifted os started H enc)
#print axioms exact_holds
end Go.Proofs.Ytjpddkojclgkmaa
