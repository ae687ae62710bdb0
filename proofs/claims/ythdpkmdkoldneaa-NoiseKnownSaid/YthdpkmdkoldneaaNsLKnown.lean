/-
  What is proved: the closed law NoiseKnown returns true. No conditions.
-/
import Derived.Test.YthdpkmdkoldneaaNsW
import Derived.Test.YthdpkmdkoldneaaFlG
import Derived.Test.YthdpkmdkoldneaaFlL
import Derived.Test.YthdpkmdkoldneaaRows
import Derived.ProofKit
import Derived.OpenShut
import Derived.WalkKit
import Derived.WalkLawsBesides
import Derived.WalkSpells
import Derived.BigQuiet
import Derived.Lib.Hide
import Derived.Outline
import Derived.LoopTactic
set_option autoImplicit false
set_option linter.unusedVariables false
namespace Go.Proofs.Ythdpkmdkoldneaa
open Go.RowKit Go.ChangeShapes Go.WideShapes Go.ChangeAt Lk

theorem Try.own : ownKnob Try.prog.godebug = none := by kernel_rfl
theorem Try.laidOut : laidOutB Try.prog = true := by kernel_rfl

theorem next_nil (w : World) : Calls Try.prog 9 #[.pointer none] w (fun e w' => e = .returned (.int .u64 0) ∧ w = w') := by
  go_enter Try.func9, Try.ntmps9
  go_wp2
  go_ret
  exact ⟨rfl, rfl⟩
theorem skip_nil (n : Int) (w : World) : Calls Try.prog 10 #[.pointer none, .int .u64 n] w (fun e w' => e = .returned (.tuple #[]) ∧ w = w') := by
  go_enter Try.func10, Try.ntmps10
  go_wp2
  go_end0
  exact ⟨rfl, rfl⟩
theorem state_nil (w : World) : Calls Try.prog 11 #[.pointer none] w (fun e w' => e = .returned (.int .u64 0) ∧ w = w') := by
  go_enter Try.func11, Try.ntmps11
  go_wp2
  go_ret
  exact ⟨rfl, rfl⟩
theorem bell_nil (w : World) : Calls Try.prog 12 #[.pointer none] w (fun e w' => e = .returned (.float .f64 0) ∧ w = w') := by
  go_enter Try.func12, Try.ntmps12
  go_wp2
  go_ret
  exact ⟨rfl, rfl⟩
theorem pair_nil (x : Nat) (w : World) : Calls Try.prog 18 #[.pointer none, .float .f64 x] w (fun e w' => e = .returned (.complex .f64 0 0) ∧ w = w') := by
  go_enter Try.func18, Try.ntmps18
  go_wp2
  go_ret
  exact ⟨rfl, rfl⟩
theorem row_nil (n : Int) (x : Nat) (w : World) : Calls Try.prog 17 #[.pointer none, .int .i64 n, .float .f64 x] w (fun e w' => e = .returned (.slice none 0 0) ∧ w = w') := by
  go_enter Try.func17, Try.ntmps17
  go_wp2
  go_ret
  exact ⟨rfl, rfl⟩
theorem row_low (b : Nat) (n : Int) (x : Nat) (w : World) (h : n < 0) : Calls Try.prog 17 #[.pointer (some ⟨b, 0, none⟩), .int .i64 n, .float .f64 x] w (fun e w' => e = .returned (.slice none 0 0) ∧ w = w') := by
  go_enter Try.func17, Try.ntmps17
  go_wp2
  go_ret
  exact ⟨rfl, rfl⟩
theorem row_high (b : Nat) (n : Int) (x : Nat) (w : World) (h : ¬ n < 0) (h2 : 16384 < n) : Calls Try.prog 17 #[.pointer (some ⟨b, 0, none⟩), .int .i64 n, .float .f64 x] w (fun e w' => e = .returned (.slice none 0 0) ∧ w = w') := by
  go_enter Try.func17, Try.ntmps17
  go_wp2
  go_ret
  exact ⟨rfl, rfl⟩

set_option maxRecDepth 100000 in
set_option maxHeartbeats 2000000 in
theorem known_law (w : World) : Calls Try.prog 5 #[] w (fun e w' => e = .returned (.bool true) ∧ Below w.heap.size w w') := by
  have k1 : mix (nx (skp 0 2)) = 487617019471545679 := by decide +kernel
  have k2 : nx 7 = 11400714819323198492 := by decide +kernel
  have k4 : flt (mix (nx 0) / 2048) = 4606131375998723001 := by decide +kernel
  have k5 : (FloatKind.f64.format.order 4606131375998723001 4606131375998723001 == some Ordering.eq) = true := by decide +kernel
  have k6 : (FloatKind.f64.format.order 0 0 == some Ordering.eq) = true := by decide +kernel
  go_enter Try.func5, Try.ntmps5
  go_wp2_with fail
  refine (new_walk 0 _).mono ?_; rintro e w1 ⟨rfl, b1, o1, z1⟩
  go_wp2_with fail
  refine (skip_walk 0 2 _ _ b1).mono ?_; rintro e w2 ⟨rfl, b2, o2⟩
  have h2 := o1.trans (o2.below (Nat.le_refl _) o1.size)
  clear o1 o2 b1 z1
  go_wp2_with fail
  refine (new_walk 7 _).mono ?_; rintro e w3 ⟨rfl, t3, o3, z3⟩
  have b3 := b2.stay o3
  have h3 := h2.trans (o3.mono h2.size)
  have hlt := b2.lt
  have hsz := h2.size
  clear o3 b2 h2 z3
  go_wp2_with fail
  refine (state_walk _ _ _ t3).mono ?_; rintro e w4 ⟨rfl, rfl⟩
  go_wp2_with fail
  refine (next_walk _ _ _ t3).mono ?_; rintro e w4 ⟨rfl, t4, o4⟩
  have b4 := b3.keep o4 (by omega)
  have h4 := h3.trans (o4.below (by omega) h3.size)
  clear o4 b3 h3 t3
  go_wp2_with fail
  refine (skip_nil _ _).mono ?_; rintro e w5 ⟨rfl, rfl⟩
  go_wp2_with fail
  refine (next_walk _ _ _ b4).mono ?_; rintro e w5 ⟨rfl, b5, o5⟩
  have t5 := t4.keep o5 (by omega)
  have h5 := h4.trans (o5.below (by omega) h4.size)
  rw [k1]
  clear o5 b4 h4 t4 b5
  go_wp2_with fail
  refine (state_walk _ _ _ t5).mono ?_; rintro e w6 ⟨rfl, rfl⟩
  rw [k2]
  go_wp2_with fail
  refine (new_walk 0 _).mono ?_; rintro e w6 ⟨rfl, b6, o6, z6⟩
  have h6 := h5.trans (o6.mono h5.size)
  have hz5 := h5.size
  clear o6 h5
  go_wp2_with fail
  refine (float_walk _ _ _ b6).mono ?_; rintro e w7 ⟨rfl, b7, o7⟩
  have h7 := h6.trans (o7.below (by omega) h6.size)
  rw [k4]
  clear o7 h6 b6 b7
  go_wp2_with fail
  refine (row_low _ _ _ _ (by decide)).mono ?_; rintro e w8 ⟨rfl, rfl⟩
  go_wp2_with fail
  refine (row_high _ _ _ _ (by decide) (by decide)).mono ?_; rintro e w8 ⟨rfl, rfl⟩
  go_wp2_with fail
  refine (next_nil _).mono ?_; rintro e w8 ⟨rfl, rfl⟩
  go_wp2_with fail
  refine (bell_nil _).mono ?_; rintro e w8 ⟨rfl, rfl⟩
  go_wp2_with fail
  refine (state_nil _).mono ?_; rintro e w8 ⟨rfl, rfl⟩
  go_wp2_with fail
  refine (row_nil _ _ _).mono ?_; rintro e w8 ⟨rfl, rfl⟩
  go_wp2_with fail
  refine (pair_nil _ _).mono ?_; rintro e w8 ⟨rfl, rfl⟩
  go_wp2_with fail
  refine (works_walk _).mono ?_; rintro e w9 ⟨rfl, o9⟩
  go_wp2_with fail
  go_ret
  exact ⟨rfl, h7.trans (o9.mono h7.size)⟩

theorem known_args (W : World) (base : Nat) (args : Array Value) (hsz : args.size = Try.f5.params.size) (hval : ∀ (j : Nat) t v, Try.f5.params[j]? = some t → args[j]? = some v → Value.okWide Try.prog W .any base t v) :
    Calls Try.prog 5 args W (fun e w' => e = .returned (.bool true) ∧ Below W.heap.size W w') := by
  rw [Try.params5] at hsz
  obtain rfl : args = #[] := by simpa using hsz
  exact known_law W

set_option maxRecDepth 100000 in
theorem known_lifted (os : Os) (started : os.Started) (H : Type) (enc : TypeId × Value → H) :
    ReturnsInHanded {} Try.checked os 5 .any (Rows.noiseKnownSpec.pre6 enc Try.prog Try.f5 Rows.noiseKnownRow.domain false) (Rows.noiseKnownSpec.post enc Try.prog Try.f5 false true false false) :=
  law_lifted (C := Try.checked) Try.own started (by kernel_rfl) Try.func5
    (ChangeSpec.witness6 (enc := enc) (C := Try.checked) false ⟨#[], #[], []⟩ 8 (by kernel_rfl) (by kernel_rfl) (by kernel_rfl) (by kernel_rfl))
    Try.laidOut (fun t ht => by have ht2 : t ∈ Try.f5.params.toList := ht; rw [Try.params5] at ht2; simp at ht2)
    rfl Try.underlying4 rfl (fun ds hd => by have hd2 : ds.length = Try.f5.params.size := hd; rw [Try.params5] at hd2; match ds, hd2 with | [], _ => exact ⟨rfl, rfl, rfl⟩) known_args

theorem known_holds : Rows.NoiseKnownSaid :=
  OpenClaim.holds_of_wide 5 Try.f5 rfl rfl rfl rfl rfl rfl rfl ⟨rfl, rfl, rfl, rfl, rfl⟩ rfl rfl rfl rfl rfl (by kernel_rfl) Try.func5 (by kernel_rfl)
    (of_decide_eq_true (by kernel_rfl)) (by unfold Func.isWrapper; first | (rw [if_pos (by decide +kernel)]; kernel_rfl) | (rw [if_neg (by decide +kernel)]; exact ⟨rfl, rfl⟩))
    (fun os started H enc _ => known_lifted os started H enc)
#print axioms known_holds
end Go.Proofs.Ythdpkmdkoldneaa
