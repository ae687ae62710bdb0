/-
  What is proved: the closed law StateKnown (the chapter's examples and edges of package state) returns true. It has no arguments and no conditions.
-/
import Derived.Test.YtjpddkojclgkmaaStK
import Derived.Test.YtjpddkojclgkmaaFlG
import Derived.Test.YtjpddkojclgkmaaFlL
import Derived.Test.YtjpddkojclgkmaaRows
import Derived.ProofKit
import Derived.OpenShut
import Derived.WalkKit
import Derived.WalkLawsBesides
import Derived.WalkSpells
import Derived.BigQuiet
import Derived.Lib.Hide
import Derived.Outline
set_option autoImplicit false
set_option linter.unusedVariables false
namespace Go.Proofs.Ytjpddkojclgkmaa
open Go.RowKit Go.ChangeShapes Go.WideShapes Go.ChangeAt Lk

theorem Try.own : ownKnob Try.prog.godebug = none := by kernel_rfl
theorem Try.laidOut : laidOutB Try.prog = true := by kernel_rfl

@[reducible] def S10 : Value := stv 4621819117588971520 0 4616189618054758400 0 4607182418800017408
@[reducible] def Z0 : Value := stv 0 0 0 0 0
structure TKs (f : FuncId) (args : Array Value) (u : Value) : Prop where
  a : f = 11 → args = #[Z0, .float .f64 4607182418800017408, .float .f64 0] → u = .float .f64 9218868437227405312
  b : f = 11 → args = #[S10, .float .f64 9221120237041090561, .float .f64 4607182418800017408] → ∃ r, u = .float .f64 r ∧ Nan r
  c : f = 15 → args = #[S10, .float .f64 0, .float .f64 4621256167635550208] → u = S10
  d : f = 15 → args = #[S10, .float .f64 9221120237041090561, .float .f64 4621256167635550208] → u = S10
  e : f = 17 → args = #[Z0, .float .f64 4617315517961601024, .float .f64 0] → u = Z0
def TK : FuncId → Array Value → Value → World → Prop := fun f args u _ => TKs f args u
theorem far_a (w : World) : Calls Try.prog 11 #[Z0, .float .f64 4607182418800017408, .float .f64 0] w (fun e w' => ∃ u, e = .returned u ∧ TK 11 #[Z0, .float .f64 4607182418800017408, .float .f64 0] u w' ∧ Below w.heap.size w w') :=
  (far_walk _ _ _ _ _ _ _ w).mono fun e w' ⟨r, he, hr, hb⟩ => ⟨_, he, ⟨fun _ _ => by
    have h := hr.eq (show ¬ Nan (farF _ _ _) by decide +kernel)
    rw [show farF ⟨0, 0, 0, 0, 0⟩ 4607182418800017408 0 = 9218868437227405312 by kernel_rfl] at h
    rw [h], fun _ h => by simp [S10, Z0, stv] at h, fun h => absurd h (by decide), fun h => absurd h (by decide), fun h => absurd h (by decide)⟩, hb⟩
theorem far_b (w : World) : Calls Try.prog 11 #[S10, .float .f64 9221120237041090561, .float .f64 4607182418800017408] w (fun e w' => ∃ u, e = .returned u ∧ TK 11 #[S10, .float .f64 9221120237041090561, .float .f64 4607182418800017408] u w' ∧ Below w.heap.size w w') :=
  (far_walk _ _ _ _ _ _ _ w).mono fun e w' ⟨r, he, hr, hb⟩ => ⟨_, he, ⟨fun _ h => by simp [S10, Z0, stv] at h, fun _ _ => ⟨r, rfl, hr.nan.2 (by decide +kernel)⟩, fun h => absurd h (by decide), fun h => absurd h (by decide), fun h => absurd h (by decide)⟩, hb⟩
theorem lt10 : St.Lt ⟨4621819117588971520, 0, 4616189618054758400, 0, 4607182418800017408⟩ := ⟨by decide, by decide, by decide, by decide, by decide⟩
theorem lt0 : St.Lt ⟨0, 0, 0, 0, 0⟩ := ⟨by decide, by decide, by decide, by decide, by decide⟩
theorem ahead_c (w : World) : Calls Try.prog 15 #[S10, .float .f64 0, .float .f64 4621256167635550208] w (fun e w' => ∃ u, e = .returned u ∧ TK 15 #[S10, .float .f64 0, .float .f64 4621256167635550208] u w' ∧ Below w.heap.size w w') :=
  (ahead_walk _ _ _ _ _ _ _ w lt10).mono fun e w' h => by
    rw [show aheadF ⟨4621819117588971520, 0, 4616189618054758400, 0, 4607182418800017408⟩ 0 4621256167635550208 = ⟨4621819117588971520, 0, 4616189618054758400, 0, 4607182418800017408⟩ by kernel_rfl] at h
    obtain ⟨he, hb⟩ := exactS h (by decide +kernel) (by decide +kernel) (by decide +kernel) (by decide +kernel) (by decide +kernel)
    exact ⟨_, he, ⟨fun h => absurd h (by decide), fun h => absurd h (by decide), fun _ _ => rfl, fun _ h => by simp [S10, stv] at h, fun h => absurd h (by decide)⟩, hb⟩
theorem ahead_d (w : World) : Calls Try.prog 15 #[S10, .float .f64 9221120237041090561, .float .f64 4621256167635550208] w (fun e w' => ∃ u, e = .returned u ∧ TK 15 #[S10, .float .f64 9221120237041090561, .float .f64 4621256167635550208] u w' ∧ Below w.heap.size w w') :=
  (ahead_walk _ _ _ _ _ _ _ w lt10).mono fun e w' h => by
    rw [show aheadF ⟨4621819117588971520, 0, 4616189618054758400, 0, 4607182418800017408⟩ 9221120237041090561 4621256167635550208 = ⟨4621819117588971520, 0, 4616189618054758400, 0, 4607182418800017408⟩ by kernel_rfl] at h
    obtain ⟨he, hb⟩ := exactS h (by decide +kernel) (by decide +kernel) (by decide +kernel) (by decide +kernel) (by decide +kernel)
    exact ⟨_, he, ⟨fun h => absurd h (by decide), fun h => absurd h (by decide), fun _ h => by simp [S10, stv] at h, fun _ _ => rfl, fun h => absurd h (by decide)⟩, hb⟩
theorem seen_e (w : World) : Calls Try.prog 17 #[Z0, .float .f64 4617315517961601024, .float .f64 0] w (fun e w' => ∃ u, e = .returned u ∧ TK 17 #[Z0, .float .f64 4617315517961601024, .float .f64 0] u w' ∧ Below w.heap.size w w') :=
  (seen_walk _ _ _ _ _ _ _ w lt0).mono fun e w' h => by
    rw [show seenF ⟨0, 0, 0, 0, 0⟩ 4617315517961601024 0 = ⟨0, 0, 0, 0, 0⟩ by kernel_rfl] at h
    obtain ⟨he, hb⟩ := exactS h (by decide +kernel) (by decide +kernel) (by decide +kernel) (by decide +kernel) (by decide +kernel)
    exact ⟨_, he, ⟨fun h => absurd h (by decide), fun h => absurd h (by decide), fun h => absurd h (by decide), fun h => absurd h (by decide), fun _ _ => rfl⟩, hb⟩
theorem may_of {a b c d f : Nat} {v : Bool} (h : mayF ⟨a, b, c, d, f⟩ = v) (hl : St.Lt ⟨a, b, c, d, f⟩) (w : World) : Calls Try.prog 13 #[stv a b c d f] w (fun e w' => e = .returned (.bool v) ∧ Below w.heap.size w w') :=
  (may_walk _ _ _ _ _ w hl).mono fun e w' ⟨he, hb⟩ => by rw [h] at he; exact ⟨he, hb⟩
theorem ahead_of {a b c d f t q a' b' c' d' f' : Nat} (h : aheadF ⟨a, b, c, d, f⟩ t q = ⟨a', b', c', d', f'⟩) (hl : St.Lt ⟨a, b, c, d, f⟩) (h1 : ¬ Nan a') (h2 : ¬ Nan b') (h3 : ¬ Nan c') (h4 : ¬ Nan d') (h5 : ¬ Nan f') (w : World) :
    Calls Try.prog 15 #[stv a b c d f, .float .f64 t, .float .f64 q] w (fun e w' => e = .returned (stv a' b' c' d' f') ∧ Below w.heap.size w w') :=
  (ahead_walk _ _ _ _ _ _ _ w hl).mono fun e w' k => by rw [h] at k; exact exactS k h1 h2 h3 h4 h5
theorem seen_of {a b c d f t q a' b' c' d' f' : Nat} (h : seenF ⟨a, b, c, d, f⟩ t q = ⟨a', b', c', d', f'⟩) (hl : St.Lt ⟨a, b, c, d, f⟩) (h1 : ¬ Nan a') (h2 : ¬ Nan b') (h3 : ¬ Nan c') (h4 : ¬ Nan d') (h5 : ¬ Nan f') (w : World) :
    Calls Try.prog 17 #[stv a b c d f, .float .f64 t, .float .f64 q] w (fun e w' => e = .returned (stv a' b' c' d' f') ∧ Below w.heap.size w w') :=
  (seen_walk _ _ _ _ _ _ _ w hl).mono fun e w' k => by rw [h] at k; exact exactS k h1 h2 h3 h4 h5
theorem nan_ne {x y : Nat} (hx : Nan x) : (FloatKind.f64.format.order x y != some Ordering.eq) = true := by
  rw [fmt64, order_nan (.inl hx)]; rfl

set_option maxRecDepth 100000 in
set_option maxHeartbeats 2000000 in
theorem known_law (w : World) : Calls Try.prog 7 #[] w (fun e w' => e = .returned (.bool true) ∧ Below w.heap.size w w') := by
  have d0 : (FloatKind.f64.format.order 0 0 == some Ordering.eq) = true := by decide +kernel
  have d1 : (FloatKind.f64.format.order 4621819117588971520 4621819117588971520 == some Ordering.eq) = true := by decide +kernel
  have d2 : (FloatKind.f64.format.order 4616189618054758400 4616189618054758400 == some Ordering.eq) = true := by decide +kernel
  have d3 : (FloatKind.f64.format.order 4607182418800017408 4607182418800017408 == some Ordering.eq) = true := by decide +kernel
  have d4 : (FloatKind.f64.format.order 9218868437227405312 9218868437227405312 == some Ordering.eq) = true := by decide +kernel
  have q1 := fun x y (w : World) => run_equalIn_float (P := Try.prog) 9998 x y w Try.underlying22
  simp only [Nat.reduceAdd] at q1
  go_enter Try.func7, Try.ntmps7
  go_wp2_with fail
  refine (start10 _).mono ?_; rintro e w1 ⟨rfl, hb1⟩; have hz1 := hb1.size
  go_wp2_with fail
  refine (inf_walk _).mono ?_; rintro e w' ⟨rfl, rfl⟩
  go_wp2_with fail
  refine (nan_walk _).mono ?_; rintro e w' ⟨rfl, rfl⟩
  unfold PINF qn
  go_wp2_with fail
  refine wp_region_G TK (by kernel_rfl) (by kernel_rfl) ?_
  repeat' (refine wpG_step' (fun K hA hK => ?_); go_simp; first | (refine bothG_value hA (v := ?_) (fun w' hw' => ?_) ?_; rotate_left; (· go_simp; rfl); (refine hK _ _ ?_; clear hK hA K)) | (refine bothG_call (f := 11) (args := ?_) (fun w' => ?_) (fun w' _ => ?_) ?_; rotate_left; (· go_simp; rfl); (· with_reducible exact far_a _); (intro u x hu; obtain rfl := hu.a rfl rfl; clear hu; refine hK _ _ ?_; clear hK hA K)) | (refine bothG_call (f := 11) (args := ?_) (fun w' => ?_) (fun w' _ => ?_) ?_; rotate_left; (· go_simp; rfl); (· with_reducible exact far_b _); (intro u x hu; obtain ⟨r, rfl, hr⟩ := hu.b rfl rfl; have hn := fun y => nan_ne (y := y) hr; clear hu hr; refine hK _ _ ?_; clear hK hA K)) | (refine bothG_call (f := 15) (args := ?_) (fun w' => ?_) (fun w' _ => ?_) ?_; rotate_left; (· go_simp; rfl); (· with_reducible exact ahead_c _); (intro u x hu; obtain rfl := hu.c rfl rfl; clear hu; refine hK _ _ ?_; clear hK hA K)) | (refine bothG_call (f := 15) (args := ?_) (fun w' => ?_) (fun w' _ => ?_) ?_; rotate_left; (· go_simp; rfl); (· with_reducible exact ahead_d _); (intro u x hu; obtain rfl := hu.d rfl rfl; clear hu; refine hK _ _ ?_; clear hK hA K)) | (refine bothG_call (f := 17) (args := ?_) (fun w' => ?_) (fun w' _ => ?_) ?_; rotate_left; (· go_simp; rfl); (· with_reducible exact seen_e _); (intro u x hu; obtain rfl := hu.e rfl rfl; clear hu; refine hK _ _ ?_; clear hK hA K)))
  refine wpG_nil ?_
  intro w2 hb2 hF
  clear hF
  have hb2' : Below w.heap.size w w2 := (hb1.alloc hz1 _).trans (hb2.mono (by simp; omega))
  have hz2 := hb2'.size
  clear hb2 hb1
  go_wp2_with fail
  refine (may_of (show mayF ⟨9218868437227405312, 0, 0, 0, 0⟩ = false by kernel_rfl) ⟨by decide, by decide, by decide, by decide, by decide⟩ _).mono ?_; rintro e w3 ⟨rfl, hb3⟩
  go_wp2_with fail
  refine (may_of (show mayF ⟨0, 0, 0, 9221120237041090561, 0⟩ = false by kernel_rfl) ⟨by decide, by decide, by decide, by decide, by decide⟩ _).mono ?_; rintro e w4 ⟨rfl, hb4⟩
  go_wp2_with fail
  refine (may_of (show mayF ⟨0, 0, 0, 0, 13830554455654793216⟩ = false by kernel_rfl) ⟨by decide, by decide, by decide, by decide, by decide⟩ _).mono ?_; rintro e w5 ⟨rfl, hb5⟩
  go_wp2_with fail
  refine (may_of (show mayF ⟨0, 0, 4607182418800017408, 4611686018427387904, 4607182418800017408⟩ = true by kernel_rfl) ⟨by decide, by decide, by decide, by decide, by decide⟩ _).mono ?_; rintro e w6 ⟨rfl, hb6⟩
  go_wp2_with fail
  refine (may_of (show mayF ⟨0, 0, 0, 0, 0⟩ = true by kernel_rfl) ⟨by decide, by decide, by decide, by decide, by decide⟩ _).mono ?_; rintro e w7 ⟨rfl, hb7⟩
  have hb7' : Below w.heap.size w w7 := hb2'.trans ((hb3.trans ((hb4.trans ((hb5.trans ((hb6.trans (hb7.mono hb6.size)).mono hb5.size)).mono hb4.size)).mono hb3.size)).mono hz2)
  clear hb3 hb4 hb5 hb6 hb7 hb2'
  go_wp2_with fail
  refine (ahead_of (show aheadF ⟨0, 0, 4607182418800017408, 13830554455654793216, 4607182418800017408⟩ 4607182418800017408 0 = ⟨0, 0, 0, 0, 4607182418800017408⟩ by kernel_rfl) ⟨by decide, by decide, by decide, by decide, by decide⟩ (by decide +kernel) (by decide +kernel) (by decide +kernel) (by decide +kernel) (by decide +kernel) _).mono ?_; rintro e w8 ⟨rfl, hb8⟩
  have k8 : Below w.heap.size w w8 := hb7'.trans (hb8.mono hb7'.size)
  clear hb8 hb7'
  go_wp2_with fail
  refine (ahead_of (show aheadF ⟨0, 0, 4607182418800017408, 13835058055282163712, 4607182418800017408⟩ 4607182418800017408 0 = ⟨0, 0, 0, 13830554455654793216, 4607182418800017408⟩ by kernel_rfl) ⟨by decide, by decide, by decide, by decide, by decide⟩ (by decide +kernel) (by decide +kernel) (by decide +kernel) (by decide +kernel) (by decide +kernel) _).mono ?_; rintro e w9 ⟨rfl, hb9⟩
  have z9 := AtS.lt hb9
  have A9 := Lib.hid ((AtS.new w8 0 0 0 0 4607182418800017408 24).keep (by simp) hb9)
  have k9 : Below w.heap.size w w9 := (k8.alloc k8.size _).trans (hb9.mono (by have := k8.size; simp; omega))
  clear hb9 
  go_wp2_with fail
  refine (seen_of (show seenF ⟨0, 0, 4607182418800017408, 4611686018427387904, 4607182418800017408⟩ 4613937818241073152 4607182418800017408 = ⟨4609434218613702656, 4613937818241073152, 4602678819172646912, 4607182418800017408, 0⟩ by kernel_rfl) ⟨by decide, by decide, by decide, by decide, by decide⟩ (by decide +kernel) (by decide +kernel) (by decide +kernel) (by decide +kernel) (by decide +kernel) _).mono ?_; rintro e w10 ⟨rfl, hb10⟩
  have z10 := AtS.lt hb10
  have A10 := Lib.hid ((A9.out.old z9 _).keep (by simp; omega) hb10)
  have B10 := Lib.hid ((AtS.new w9 0 0 0 13830554455654793216 4607182418800017408 24).keep (by simp) hb10)
  have k10 : Below w.heap.size w w10 := (k9.alloc k9.size _).trans (hb10.mono (by have := k9.size; simp; omega))
  have y10 : w8.heap.size < w10.heap.size := by omega
  clear hb10 A9
  go_wp2_with fail
  refine (seen_of (show seenF ⟨0, 0, 4336966441157787648, 0, 0⟩ 4613937818241073152 4607182418800017408 = ⟨4343721840598843392, 0, 4336966441157787648, 0, 0⟩ by kernel_rfl) ⟨by decide, by decide, by decide, by decide, by decide⟩ (by decide +kernel) (by decide +kernel) (by decide +kernel) (by decide +kernel) (by decide +kernel) _).mono ?_; rintro e w11 ⟨rfl, hb11⟩
  have z11 := AtS.lt hb11
  have A11 := (A10.out.old y10 _).keep (by simp; omega) hb11
  have B11 := (B10.out.old z10 _).keep (by simp; omega) hb11
  have C11 := (AtS.new w10 4609434218613702656 4613937818241073152 4602678819172646912 4607182418800017408 0 24).keep (by simp) hb11
  have k11 : Below w.heap.size w w11 := (k10.alloc k10.size _).trans (hb11.mono (by have := k10.size; simp; omega))
  have y11 : w8.heap.size < w11.heap.size := by omega
  have x11 : w9.heap.size < w11.heap.size := by omega
  clear hb11 A10 B10
  obtain ⟨a0, a1, a2, a3, a4⟩ := A11
  obtain ⟨b0, b1, b2, b3, b4⟩ := B11
  obtain ⟨c0, c1, c2, c3, c4⟩ := C11
  have d5 : (FloatKind.f64.format.order 13830554455654793216 13830554455654793216 == some Ordering.eq) = true := by decide +kernel
  have d6 : (FloatKind.f64.format.order 4609434218613702656 4609434218613702656 == some Ordering.eq) = true := by decide +kernel
  have d7 : (FloatKind.f64.format.order 4613937818241073152 4613937818241073152 == some Ordering.eq) = true := by decide +kernel
  have d8 : (FloatKind.f64.format.order 4602678819172646912 4602678819172646912 == some Ordering.eq) = true := by decide +kernel
  have d9 : (FloatKind.f64.format.order 4336966441157787648 4336966441157787648 == some Ordering.eq) = true := by decide +kernel
  go_wp2_with fail
  refine (ahead_of (show aheadF ⟨0, 4613937818241073152, 0, 0, 0⟩ 4611686018427387904 4618441417868443648 = ⟨4618441417868443648, 4613937818241073152, 4625196817309499392, 4622945017495814144, 4622945017495814144⟩ by kernel_rfl) ⟨by decide, by decide, by decide, by decide, by decide⟩ (by decide +kernel) (by decide +kernel) (by decide +kernel) (by decide +kernel) (by decide +kernel) _).mono ?_; rintro e w12 ⟨rfl, hb12⟩
  have k12 : Below w.heap.size w w12 := (k11.alloc k11.size _).trans (hb12.mono (by have := k11.size; simp; omega))
  clear hb12 a0 a1 a2 a3 a4 b0 b1 b2 b3 b4 c0 c1 c2 c3 c4 d5 d6 d8 d9
  have e1 : (FloatKind.f64.format.order 4618441417868443648 4618441417868443648 == some Ordering.eq) = true := by decide +kernel
  have e2 : (FloatKind.f64.format.order 4625196817309499392 4625196817309499392 == some Ordering.eq) = true := by decide +kernel
  have e3 : (FloatKind.f64.format.order 4622945017495814144 4622945017495814144 == some Ordering.eq) = true := by decide +kernel
  go_wp2_with fail
  refine (wakes_walk _).mono ?_; rintro e w13 ⟨rfl, hb13⟩
  go_wp2_with fail
  go_ret
  exact ⟨rfl, (k12.alloc k12.size _).trans (hb13.mono (by have := k12.size; simp; omega))⟩

theorem known_args (W : World) (base : Nat) (args : Array Value) (hsz : args.size = Try.f7.params.size) (hval : ∀ (j : Nat) t v, Try.f7.params[j]? = some t → args[j]? = some v → Value.okWide Try.prog W .any base t v) :
    Calls Try.prog 7 args W (fun e w' => e = .returned (.bool true) ∧ Below W.heap.size W w') := by
  rw [Try.params7] at hsz
  obtain rfl : args = #[] := by simpa using hsz
  exact known_law W

set_option maxRecDepth 100000 in
theorem known_lifted (os : Os) (started : os.Started) (H : Type) (enc : TypeId × Value → H) :
    ReturnsInHanded {} Try.checked os 7 .any (Rows.stateKnownSpec.pre6 enc Try.prog Try.f7 Rows.stateKnownRow.domain false) (Rows.stateKnownSpec.post enc Try.prog Try.f7 false true false false) :=
  law_lifted (C := Try.checked) Try.own started (by kernel_rfl) Try.func7
    (ChangeSpec.witness6 (enc := enc) (C := Try.checked) false ⟨#[], #[], []⟩ 8 (by kernel_rfl) (by kernel_rfl) (by kernel_rfl) (by kernel_rfl))
    Try.laidOut (fun t ht => by have ht2 : t ∈ Try.f7.params.toList := ht; rw [Try.params7] at ht2; simp at ht2)
    rfl Try.underlying4 rfl (fun ds hd => by have hd2 : ds.length = Try.f7.params.size := hd; rw [Try.params7] at hd2; match ds, hd2 with | [], _ => exact ⟨rfl, rfl, rfl⟩) known_args

theorem known_holds : Rows.StateKnownSaid :=
  OpenClaim.holds_of_wide 7 Try.f7 rfl rfl rfl rfl rfl rfl rfl ⟨rfl, rfl, rfl, rfl, rfl⟩ rfl rfl rfl rfl rfl (by kernel_rfl) Try.func7 (by kernel_rfl)
    (of_decide_eq_true (by kernel_rfl)) (by unfold Func.isWrapper; first | (rw [if_pos (by decide +kernel)]; kernel_rfl) | (rw [if_neg (by decide +kernel)]; exact ⟨rfl, rfl⟩))
    (fun os started H enc _ => known_lifted os started H enc)
#print axioms known_holds
end Go.Proofs.Ytjpddkojclgkmaa
