/-
  What is proved: the law GateKnown returns true. No conditions.
-/
import Derived.Test.YtakkdkgbkedliaaGaBl
import Derived.Deep.Heap
import Derived.Test.YtakkdkgbkedliaaRows
set_option autoImplicit false
set_option linter.unusedVariables false
namespace Go.Proofs.Ytakkdkgbkedliaa
open Go.RowKit Go.ChangeShapes Go.WideShapes Go.ChangeAt Lk
/-- a beat's block -/
def BlB (W : World) (g c v r : Nat) (e n : Int) : Prop := W.heap[g]? = some (.cells #[.float .f64 c, .float .f64 v, .float .f64 r, .int .i64 e, .int .i64 n] 24 (0, 0))
theorem BlB.at {W : World} {g c v r : Nat} {e n : Int} (h : BlB W g c v r e n) : AtB W g c v r e n :=
  ⟨cell_of_heap h 0, cell_of_heap h 1, cell_of_heap h 2, cell_of_heap h 3, cell_of_heap h 4⟩
theorem BlB.lt {W : World} {g c v r : Nat} {e n : Int} (h : BlB W g c v r e n) : g < W.heap.size := (Array.getElem?_eq_some_iff.1 h).1
theorem BlB.keep {W w' : World} {g c v r : Nat} {e n : Int} (h : BlB W g c v r e n) (hb : Below W.heap.size W w') : BlB w' g c v r e n := (hb.block _ h.lt).trans h
theorem BlB.new (W : World) (c v r : Nat) (e n : Int) : BlB (W.alloc (.cells #[.float .f64 c, .float .f64 v, .float .f64 r, .int .i64 e, .int .i64 n] 24)) W.heap.size c v r e n := by
  unfold BlB; show (W.heap.push _)[W.heap.size]? = _; simp
theorem nan_walk (w : World) : Calls Try.prog 27 #[] w (fun e w' => e = .returned (.float .f64 qn) ∧ w = w') := by
  go_enter Try.func27, Try.ntmps27
  go_wp2
  go_ret
  exact ⟨rfl, rfl⟩
theorem celA : cel 4621819117588971520 4598175219545276416 4652007308841189376 100 8 4652006429231887155 = (99, 0, 0) := by decide +kernel
theorem celB : cel 4621819117588971520 4598175219545276416 4652007308841189376 100 8 13830554455654793216 = (0, 0, 2) := by decide +kernel
theorem celC : cel 4621819117588971520 4598175219545276416 4652007308841189376 100 8 qn = (0, 0, 6) := by decide +kernel
theorem metA : met 4621819117588971520 4598175219545276416 4652007308841189376 100 8 100 0 = (0, 2) := by decide +kernel
theorem binA : bin 4621819117588971520 4598175219545276416 4652007308841189376 100 8 4608308318706860032 = (0, 0) := by decide +kernel
theorem binB : bin 4621819117588971520 4598175219545276416 4652007308841189376 100 8 4603804719079489536 = (13839561654909534208, 0) := by decide +kernel
theorem spdA : spd 4621819117588971520 4598175219545276416 4652007308841189376 100 8 13835058055282163712 = (4599301119452119040, 0) := by decide +kernel
theorem bldA : bld 4621819117588971520 4598175219545276416 4652007308841189376 100 8 = (4652007308841189376, 4608308318706860032, 0) := by decide +kernel
theorem chkA : chk 4621819117588971520 4598175219545276416 4652007308841189376 100 8 = 0 := by decide +kernel
theorem chkB : chk 4621819117588971520 4598175219545276416 0 100 8 = 80 := by decide +kernel
theorem chkC : chk 4621819117588971520 4598175219545276416 4652007308841189376 16384 32 = 3 := by decide +kernel
theorem R3f.eq {x : Nat × Nat × Int} {w w' : World} {e : Ending} {a b : Nat} {c : Int} (h : x = (a, b, c)) (k : R3f x w e w') : e = .returned (.tuple #[.float .f64 a, .float .f64 b, .int .i64 c]) ∧ Below w.heap.size w w' := by rw [h] at k; exact k
/-- what the calls of the region that draws hand back -/
structure TK (f : FuncId) (args : Array Value) (u : Value) (w : World) : Prop where
  a : f = 27 → u = .float .f64 qn
  b : f = 11 → u = .tuple #[.int .i64 0, .int .i64 0, .int .i64 6]
theorem tk_a (w : World) : Calls Try.prog 27 #[] w (fun e' w'' => ∃ u, e' = .returned u ∧ TK 27 #[] u w'' ∧ Ext w w'') :=
  (nan_walk w).mono fun e' w' ⟨he, hb⟩ => ⟨_, he, ⟨fun _ => rfl, (fun h => absurd h (by decide))⟩, hb ▸ Ext.refl _⟩
theorem tk_b (w : World) : Calls Try.prog 11 #[btv 4621819117588971520 4598175219545276416 4652007308841189376 100 8, .float .f64 qn] w (fun e' w'' => ∃ u, e' = .returned u ∧ TK 11 #[btv 4621819117588971520 4598175219545276416 4652007308841189376 100 8, .float .f64 qn] u w'' ∧ Ext w w'') :=
  (cell_walk 4621819117588971520 4598175219545276416 4652007308841189376 100 8 qn w (by decide) (by decide) (by decide) (by decide)).mono fun e' w' k => by obtain ⟨he, hb⟩ := R3.eq celC k; exact ⟨_, he, ⟨(fun h => absurd h (by decide)), fun _ => rfl⟩, hb⟩
set_option maxHeartbeats 4000000 in
theorem known_law (w : World) : Calls Try.prog 8 #[] w (fun e' w' => e' = .returned (.bool true) ∧ Below w.heap.size w w') := by
  go_enter Try.func8, Try.ntmps8
  go_wp2_with fail
  refine (plain_walk _).mono ?_; rintro e w1 ⟨rfl, b1⟩
  go_wp2_with fail
  have b1' := b1.size
  have KA := Lib.hid ((((BlB.new w1 4621819117588971520 4598175219545276416 4652007308841189376 100 8).keep ((Below.refl _ _).alloc (Nat.le_refl _) (Obj.cells #[Value.float FloatKind.f64 4621819117588971520, Value.float FloatKind.f64 4598175219545276416, Value.float FloatKind.f64 0, Value.int IntKind.i64 100, Value.int IntKind.i64 8] 24))).keep ((Below.refl _ _).alloc (Nat.le_refl _) (Obj.cells #[Value.float FloatKind.f64 4621819117588971520, Value.float FloatKind.f64 4598175219545276416, Value.float FloatKind.f64 4652007308841189376, Value.int IntKind.i64 16384, Value.int IntKind.i64 32] 24))).at)
  have KB := Lib.hid (((BlB.new (w1.alloc (Obj.cells #[Value.float FloatKind.f64 4621819117588971520, Value.float FloatKind.f64 4598175219545276416, Value.float FloatKind.f64 4652007308841189376, Value.int IntKind.i64 100, Value.int IntKind.i64 8] 24)) 4621819117588971520 4598175219545276416 0 100 8).keep ((Below.refl _ _).alloc (Nat.le_refl _) (Obj.cells #[Value.float FloatKind.f64 4621819117588971520, Value.float FloatKind.f64 4598175219545276416, Value.float FloatKind.f64 4652007308841189376, Value.int IntKind.i64 16384, Value.int IntKind.i64 32] 24))).at)
  have KD := Lib.hid ((BlB.new ((w1.alloc (Obj.cells #[Value.float FloatKind.f64 4621819117588971520, Value.float FloatKind.f64 4598175219545276416, Value.float FloatKind.f64 4652007308841189376, Value.int IntKind.i64 100, Value.int IntKind.i64 8] 24)).alloc (Obj.cells #[Value.float FloatKind.f64 4621819117588971520, Value.float FloatKind.f64 4598175219545276416, Value.float FloatKind.f64 0, Value.int IntKind.i64 100, Value.int IntKind.i64 8] 24)) 4621819117588971520 4598175219545276416 4652007308841189376 16384 32).at)
  rw [show ((w1.alloc (Obj.cells #[Value.float FloatKind.f64 4621819117588971520, Value.float FloatKind.f64 4598175219545276416, Value.float FloatKind.f64 4652007308841189376, Value.int IntKind.i64 100, Value.int IntKind.i64 8] 24))).heap.size = w1.heap.size + 1 by simp] at KB
  rw [show (((w1.alloc (Obj.cells #[Value.float FloatKind.f64 4621819117588971520, Value.float FloatKind.f64 4598175219545276416, Value.float FloatKind.f64 4652007308841189376, Value.int IntKind.i64 100, Value.int IntKind.i64 8] 24)).alloc (Obj.cells #[Value.float FloatKind.f64 4621819117588971520, Value.float FloatKind.f64 4598175219545276416, Value.float FloatKind.f64 0, Value.int IntKind.i64 100, Value.int IntKind.i64 8] 24))).heap.size = w1.heap.size + 1 + 1 by simp] at KD
  have KW : Hid (Below w.heap.size w (((w1.alloc (Obj.cells #[Value.float FloatKind.f64 4621819117588971520, Value.float FloatKind.f64 4598175219545276416, Value.float FloatKind.f64 4652007308841189376, Value.int IntKind.i64 100, Value.int IntKind.i64 8] 24)).alloc (Obj.cells #[Value.float FloatKind.f64 4621819117588971520, Value.float FloatKind.f64 4598175219545276416, Value.float FloatKind.f64 0, Value.int IntKind.i64 100, Value.int IntKind.i64 8] 24)).alloc (Obj.cells #[Value.float FloatKind.f64 4621819117588971520, Value.float FloatKind.f64 4598175219545276416, Value.float FloatKind.f64 4652007308841189376, Value.int IntKind.i64 16384, Value.int IntKind.i64 32] 24))) := Lib.hid (((b1.alloc b1' _).alloc (by simp; omega) _).alloc (by simp; omega) _)
  have hzA : w1.heap.size < (((w1.alloc (Obj.cells #[Value.float FloatKind.f64 4621819117588971520, Value.float FloatKind.f64 4598175219545276416, Value.float FloatKind.f64 4652007308841189376, Value.int IntKind.i64 100, Value.int IntKind.i64 8] 24)).alloc (Obj.cells #[Value.float FloatKind.f64 4621819117588971520, Value.float FloatKind.f64 4598175219545276416, Value.float FloatKind.f64 0, Value.int IntKind.i64 100, Value.int IntKind.i64 8] 24)).alloc (Obj.cells #[Value.float FloatKind.f64 4621819117588971520, Value.float FloatKind.f64 4598175219545276416, Value.float FloatKind.f64 4652007308841189376, Value.int IntKind.i64 16384, Value.int IntKind.i64 32] 24)).heap.size := by first | (simp; done) | (simp; omega)
  have hzB : w1.heap.size + 1 < (((w1.alloc (Obj.cells #[Value.float FloatKind.f64 4621819117588971520, Value.float FloatKind.f64 4598175219545276416, Value.float FloatKind.f64 4652007308841189376, Value.int IntKind.i64 100, Value.int IntKind.i64 8] 24)).alloc (Obj.cells #[Value.float FloatKind.f64 4621819117588971520, Value.float FloatKind.f64 4598175219545276416, Value.float FloatKind.f64 0, Value.int IntKind.i64 100, Value.int IntKind.i64 8] 24)).alloc (Obj.cells #[Value.float FloatKind.f64 4621819117588971520, Value.float FloatKind.f64 4598175219545276416, Value.float FloatKind.f64 4652007308841189376, Value.int IntKind.i64 16384, Value.int IntKind.i64 32] 24)).heap.size := by first | (simp; done) | (simp; omega)
  have hzD : w1.heap.size + 1 + 1 < (((w1.alloc (Obj.cells #[Value.float FloatKind.f64 4621819117588971520, Value.float FloatKind.f64 4598175219545276416, Value.float FloatKind.f64 4652007308841189376, Value.int IntKind.i64 100, Value.int IntKind.i64 8] 24)).alloc (Obj.cells #[Value.float FloatKind.f64 4621819117588971520, Value.float FloatKind.f64 4598175219545276416, Value.float FloatKind.f64 0, Value.int IntKind.i64 100, Value.int IntKind.i64 8] 24)).alloc (Obj.cells #[Value.float FloatKind.f64 4621819117588971520, Value.float FloatKind.f64 4598175219545276416, Value.float FloatKind.f64 4652007308841189376, Value.int IntKind.i64 16384, Value.int IntKind.i64 32] 24)).heap.size := by first | (simp; done) | (simp; omega)
  clear b1
  generalize (((w1.alloc (Obj.cells #[Value.float FloatKind.f64 4621819117588971520, Value.float FloatKind.f64 4598175219545276416, Value.float FloatKind.f64 4652007308841189376, Value.int IntKind.i64 100, Value.int IntKind.i64 8] 24)).alloc (Obj.cells #[Value.float FloatKind.f64 4621819117588971520, Value.float FloatKind.f64 4598175219545276416, Value.float FloatKind.f64 0, Value.int IntKind.i64 100, Value.int IntKind.i64 8] 24)).alloc (Obj.cells #[Value.float FloatKind.f64 4621819117588971520, Value.float FloatKind.f64 4598175219545276416, Value.float FloatKind.f64 4652007308841189376, Value.int IntKind.i64 16384, Value.int IntKind.i64 32] 24)) = W1 at *
  obtain ⟨a0, a1, a2, a3, a4⟩ := KA.out
  refine (cell_walk _ _ _ _ _ _ _ (by decide) (by decide) (by decide) (by decide)).mono ?_; rintro e w' k; obtain ⟨rfl, b⟩ := R3.eq celA k
  have hA := KA.out.keep hzA b; have hB := KB.out.keep hzB b; have hD := KD.out.keep hzD b; have hW := KW.out.trans (b.mono KW.out.size); have hs := b.size; clear KA KB KD KW b a0 a1 a2 a3 a4
  replace hzA := Nat.lt_of_lt_of_le hzA hs; replace hzB := Nat.lt_of_lt_of_le hzB hs; replace hzD := Nat.lt_of_lt_of_le hzD hs; clear hs
  have KA := Lib.hid hA; have KB := Lib.hid hB; have KD := Lib.hid hD; have KW := Lib.hid hW; clear hA hB hD hW
  obtain ⟨a0, a1, a2, a3, a4⟩ := KA.out
  go_wp2_with fail
  refine (cell_walk _ _ _ _ _ _ _ (by decide) (by decide) (by decide) (by decide)).mono ?_; rintro e w' k; obtain ⟨rfl, b⟩ := R3.eq celB k
  have hA := KA.out.keep hzA b; have hB := KB.out.keep hzB b; have hD := KD.out.keep hzD b; have hW := KW.out.trans (b.mono KW.out.size); have hs := b.size; clear KA KB KD KW b a0 a1 a2 a3 a4
  replace hzA := Nat.lt_of_lt_of_le hzA hs; replace hzB := Nat.lt_of_lt_of_le hzB hs; replace hzD := Nat.lt_of_lt_of_le hzD hs; clear hs
  have KA := Lib.hid hA; have KB := Lib.hid hB; have KD := Lib.hid hD; have KW := Lib.hid hW; clear hA hB hD hW
  obtain ⟨a0, a1, a2, a3, a4⟩ := KA.out
  go_wp2_with fail
  refine wp_region_G TK (by kernel_rfl) (by kernel_rfl) ?_
  repeat' (refine wpG_step' (fun K hA hK => ?_); go_simp; first | (refine bothG_value hA (v := ?_) (fun w' hw' => ?_) ?_; rotate_left; (· go_simp; rfl); (refine hK _ _ ?_; clear hK hA K)) | (refine bothG_call (f := 27) (args := ?_) (fun w' => ?_) (fun w' _ => ?_) ?_; rotate_left; (· go_simp; rfl); (· exact tk_a _); (intro u x hu; obtain rfl := hu.a rfl; clear hu; refine hK _ _ ?_; clear hK hA K)) | (refine bothG_call (f := 11) (args := ?_) (fun w' => ?_) (fun w' _ => ?_) ?_; rotate_left; (· go_simp; rfl); (· exact tk_b _); (intro u x hu; obtain rfl := hu.b rfl; clear hu; refine hK _ _ ?_; clear hK hA K)))
  refine wpG_nil ?_
  intro w9 b hF
  clear hF
  have hA := KA.out.keep hzA b; have hB := KB.out.keep hzB b; have hD := KD.out.keep hzD b; have hW := KW.out.trans (b.mono KW.out.size); have hs := b.size; clear KA KB KD KW b a0 a1 a2 a3 a4
  replace hzA := Nat.lt_of_lt_of_le hzA hs; replace hzB := Nat.lt_of_lt_of_le hzB hs; replace hzD := Nat.lt_of_lt_of_le hzD hs; clear hs
  have KA := Lib.hid hA; have KB := Lib.hid hB; have KD := Lib.hid hD; have KW := Lib.hid hW; clear hA hB hD hW
  obtain ⟨a0, a1, a2, a3, a4⟩ := KA.out
  go_wp2_with fail
  refine (metres_walk _ _ _ _ _ _ _ _ (by decide) (by decide) (by decide) (by decide) (by decide) (by decide) (by decide) (by decide)).mono ?_; rintro e w' k; obtain ⟨rfl, b⟩ := R2.eq metA k
  have hA := KA.out.keep hzA b; have hB := KB.out.keep hzB b; have hD := KD.out.keep hzD b; have hW := KW.out.trans (b.mono KW.out.size); have hs := b.size; clear KA KB KD KW b a0 a1 a2 a3 a4
  replace hzA := Nat.lt_of_lt_of_le hzA hs; replace hzB := Nat.lt_of_lt_of_le hzB hs; replace hzD := Nat.lt_of_lt_of_le hzD hs; clear hs
  have KA := Lib.hid hA; have KB := Lib.hid hB; have KD := Lib.hid hD; have KW := Lib.hid hW; clear hA hB hD hW
  obtain ⟨a0, a1, a2, a3, a4⟩ := KA.out
  go_wp2_with fail
  refine (bin_walk _ _ _ _ _ _ _ (by decide) (by decide) (by decide) (by decide)).mono ?_; rintro e w' k; obtain ⟨rfl, b⟩ := R2.eq binA k
  have hA := KA.out.keep hzA b; have hB := KB.out.keep hzB b; have hD := KD.out.keep hzD b; have hW := KW.out.trans (b.mono KW.out.size); have hs := b.size; clear KA KB KD KW b a0 a1 a2 a3 a4
  replace hzA := Nat.lt_of_lt_of_le hzA hs; replace hzB := Nat.lt_of_lt_of_le hzB hs; replace hzD := Nat.lt_of_lt_of_le hzD hs; clear hs
  have KA := Lib.hid hA; have KB := Lib.hid hB; have KD := Lib.hid hD; have KW := Lib.hid hW; clear hA hB hD hW
  obtain ⟨a0, a1, a2, a3, a4⟩ := KA.out
  go_wp2_with fail
  refine (bin_walk _ _ _ _ _ _ _ (by decide) (by decide) (by decide) (by decide)).mono ?_; rintro e w' k; obtain ⟨rfl, b⟩ := R2.eq binB k
  have hA := KA.out.keep hzA b; have hB := KB.out.keep hzB b; have hD := KD.out.keep hzD b; have hW := KW.out.trans (b.mono KW.out.size); have hs := b.size; clear KA KB KD KW b a0 a1 a2 a3 a4
  replace hzA := Nat.lt_of_lt_of_le hzA hs; replace hzB := Nat.lt_of_lt_of_le hzB hs; replace hzD := Nat.lt_of_lt_of_le hzD hs; clear hs
  have KA := Lib.hid hA; have KB := Lib.hid hB; have KD := Lib.hid hD; have KW := Lib.hid hW; clear hA hB hD hW
  obtain ⟨a0, a1, a2, a3, a4⟩ := KA.out
  go_wp2_with fail
  refine (speed_walk _ _ _ _ _ _ _ (by decide) (by decide) (by decide) (by decide)).mono ?_; rintro e w' k; obtain ⟨rfl, b⟩ := R2.eq spdA k
  have hA := KA.out.keep hzA b; have hB := KB.out.keep hzB b; have hD := KD.out.keep hzD b; have hW := KW.out.trans (b.mono KW.out.size); have hs := b.size; clear KA KB KD KW b a0 a1 a2 a3 a4
  replace hzA := Nat.lt_of_lt_of_le hzA hs; replace hzB := Nat.lt_of_lt_of_le hzB hs; replace hzD := Nat.lt_of_lt_of_le hzD hs; clear hs
  have KA := Lib.hid hA; have KB := Lib.hid hB; have KD := Lib.hid hD; have KW := Lib.hid hW; clear hA hB hD hW
  obtain ⟨a0, a1, a2, a3, a4⟩ := KA.out
  go_wp2_with fail
  refine (blind_walk _ _ _ _ _ _ (by decide) (by decide) (by decide) (by decide)).mono ?_; rintro e w' k; obtain ⟨rfl, b⟩ := R3f.eq bldA k
  have hA := KA.out.keep hzA b; have hB := KB.out.keep hzB b; have hD := KD.out.keep hzD b; have hW := KW.out.trans (b.mono KW.out.size); have hs := b.size; clear KA KB KD KW b a0 a1 a2 a3 a4
  replace hzA := Nat.lt_of_lt_of_le hzA hs; replace hzB := Nat.lt_of_lt_of_le hzB hs; replace hzD := Nat.lt_of_lt_of_le hzD hs; clear hs
  have KA := Lib.hid hA; have KB := Lib.hid hB; have KD := Lib.hid hD; have KW := Lib.hid hW; clear hA hB hD hW
  obtain ⟨a0, a1, a2, a3, a4⟩ := KA.out
  go_wp2_with fail
  refine (check_walk _ _ _ _ _ _ (by decide) (by decide) (by decide) (by decide)).mono ?_; rw [chkA]; rintro e w' ⟨rfl, b⟩
  have hA := KA.out.keep hzA b; have hB := KB.out.keep hzB b; have hD := KD.out.keep hzD b; have hW := KW.out.trans (b.mono KW.out.size); have hs := b.size; clear KA KB KD KW b a0 a1 a2 a3 a4
  replace hzA := Nat.lt_of_lt_of_le hzA hs; replace hzB := Nat.lt_of_lt_of_le hzB hs; replace hzD := Nat.lt_of_lt_of_le hzD hs; clear hs
  have KA := Lib.hid hA; have KB := Lib.hid hB; have KD := Lib.hid hD; have KW := Lib.hid hW; clear hA hB hD hW
  obtain ⟨a0, a1, a2, a3, a4⟩ := KA.out
  clear a0 a1 a2 a3 a4
  obtain ⟨a0, a1, a2, a3, a4⟩ := KB.out
  go_wp2_with fail
  refine (check_walk _ _ _ _ _ _ (by decide) (by decide) (by decide) (by decide)).mono ?_; rw [chkB]; rintro e w' ⟨rfl, b⟩
  have hA := KA.out.keep hzA b; have hB := KB.out.keep hzB b; have hD := KD.out.keep hzD b; have hW := KW.out.trans (b.mono KW.out.size); have hs := b.size; clear KA KB KD KW b a0 a1 a2 a3 a4
  replace hzA := Nat.lt_of_lt_of_le hzA hs; replace hzB := Nat.lt_of_lt_of_le hzB hs; replace hzD := Nat.lt_of_lt_of_le hzD hs; clear hs
  have KA := Lib.hid hA; have KB := Lib.hid hB; have KD := Lib.hid hD; have KW := Lib.hid hW; clear hA hB hD hW
  obtain ⟨a0, a1, a2, a3, a4⟩ := KA.out
  clear a0 a1 a2 a3 a4
  obtain ⟨a0, a1, a2, a3, a4⟩ := KD.out
  go_wp2_with fail
  refine (check_walk _ _ _ _ _ _ (by decide) (by decide) (by decide) (by decide)).mono ?_; rw [chkC]; rintro e w' ⟨rfl, b⟩
  have hA := KA.out.keep hzA b; have hB := KB.out.keep hzB b; have hD := KD.out.keep hzD b; have hW := KW.out.trans (b.mono KW.out.size); have hs := b.size; clear KA KB KD KW b a0 a1 a2 a3 a4
  replace hzA := Nat.lt_of_lt_of_le hzA hs; replace hzB := Nat.lt_of_lt_of_le hzB hs; replace hzD := Nat.lt_of_lt_of_le hzD hs; clear hs
  have KA := Lib.hid hA; have KB := Lib.hid hB; have KD := Lib.hid hD; have KW := Lib.hid hW; clear hA hB hD hW
  obtain ⟨a0, a1, a2, a3, a4⟩ := KA.out
  go_wp2_with fail
  refine (works_walk _).mono ?_; rintro e w' ⟨rfl, b⟩
  have hA := KA.out.keep hzA b; have hB := KB.out.keep hzB b; have hD := KD.out.keep hzD b; have hW := KW.out.trans (b.mono KW.out.size); have hs := b.size; clear KA KB KD KW b a0 a1 a2 a3 a4
  replace hzA := Nat.lt_of_lt_of_le hzA hs; replace hzB := Nat.lt_of_lt_of_le hzB hs; replace hzD := Nat.lt_of_lt_of_le hzD hs; clear hs
  have KA := Lib.hid hA; have KB := Lib.hid hB; have KD := Lib.hid hD; have KW := Lib.hid hW; clear hA hB hD hW
  obtain ⟨a0, a1, a2, a3, a4⟩ := KA.out
  go_wp2_with fail
  go_ret
  exact ⟨rfl, KW.out⟩
theorem known_args (W : World) (base : Nat) (args : Array Value) (hsz : args.size = Try.f8.params.size) (hval : ∀ (j : Nat) t v, Try.f8.params[j]? = some t → args[j]? = some v → Value.okWide Try.prog W .any base t v) :
    Calls Try.prog 8 args W (fun e w' => e = .returned (.bool true) ∧ Below W.heap.size W w') := by
  rw [Try.params8] at hsz
  obtain rfl : args = #[] := by simpa using hsz
  exact known_law W

set_option maxRecDepth 100000 in
theorem known_lifted (os : Os) (started : os.Started) (H : Type) (enc : TypeId × Value → H) :
    ReturnsInHanded {} Try.checked os 8 .any (Rows.gateKnownSpec.pre6 enc Try.prog Try.f8 Rows.gateKnownRow.domain false) (Rows.gateKnownSpec.post enc Try.prog Try.f8 false true false false) :=
  law_lifted (C := Try.checked) Try.own started (by kernel_rfl) Try.func8
    (ChangeSpec.witness6 (enc := enc) (C := Try.checked) false ⟨#[], #[], []⟩ 8 (by kernel_rfl) (by kernel_rfl) (by kernel_rfl) (by kernel_rfl))
    Try.laidOut (fun t ht => by have ht2 : t ∈ Try.f8.params.toList := ht; rw [Try.params8] at ht2; simp at ht2)
    rfl Try.underlying4 rfl (fun ds hd => by have hd2 : ds.length = Try.f8.params.size := hd; rw [Try.params8] at hd2; match ds, hd2 with | [], _ => exact ⟨rfl, rfl, rfl⟩) known_args

theorem known_holds : Rows.GateKnownSaid :=
  OpenClaim.holds_of_wide 8 Try.f8 rfl rfl rfl rfl rfl rfl rfl ⟨rfl, rfl, rfl, rfl, rfl⟩ rfl rfl rfl rfl rfl (by kernel_rfl) Try.func8 (by kernel_rfl)
    (of_decide_eq_true (by kernel_rfl)) (by unfold Func.isWrapper; first | (rw [if_pos (by decide +kernel)]; kernel_rfl) | (rw [if_neg (by decide +kernel)]; exact ⟨rfl, rfl⟩))
    (fun os started H enc _ => known_lifted os started H enc)
#print axioms known_holds
end Go.Proofs.Ytakkdkgbkedliaa
