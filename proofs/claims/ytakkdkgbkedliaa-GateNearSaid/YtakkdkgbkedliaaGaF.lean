import Derived.Test.YtakkdkgbkedliaaGaE
set_option autoImplicit false
set_option linter.unusedVariables false
namespace Go.Proofs.Ytakkdkgbkedliaa
open Go.RowKit Lk
theorem cel0 : cel 4621819117588971520 4598175219545276416 4652007308841189376 100 8 4657375124607991808 = (34, 2, 0) := by decide +kernel
theorem met0 : met 4621819117588971520 4598175219545276416 4652007308841189376 100 8 34 2 = (4657375124607991808, 0) := by decide +kernel
theorem bin0 : bin 4621819117588971520 4598175219545276416 4652007308841189376 100 8 4599301119452119040 = (13835058055282163712, 0) := by decide +kernel
theorem spd0 : spd 4621819117588971520 4598175219545276416 4652007308841189376 100 8 4616189618054758400 = (13827176755934265344, 0) := by decide +kernel
theorem R3.eq {x : Int × Int × Int} {w w' : World} {e : Ending} {a b c : Int} (h : x = (a, b, c)) (k : R3 x w e w') : e = .returned (.tuple #[.int .i64 a, .int .i64 b, .int .i64 c]) ∧ Below w.heap.size w w' := by rw [h] at k; exact k
theorem R2.eq {x : Nat × Int} {w w' : World} {e : Ending} {a : Nat} {b : Int} (h : x = (a, b)) (k : R2 x w e w') : e = .returned (.tuple #[.float .f64 a, .int .i64 b]) ∧ Below w.heap.size w w' := by rw [h] at k; exact k
theorem works_walk (w : World) : Calls Try.prog 16 #[] w (fun e w' => e = .returned (.bool true) ∧ Below w.heap.size w w') := by
  have q1 : (FloatKind.f64.format.order 4657375124607991808 4657375124607991808 == some Ordering.eq) = true := by decide +kernel
  have q2 : (FloatKind.f64.format.order 13835058055282163712 13835058055282163712 == some Ordering.eq) = true := by decide +kernel
  have q3 : (FloatKind.f64.format.order 13827176755934265344 13827176755934265344 == some Ordering.eq) = true := by decide +kernel
  go_enter Try.func16, Try.ntmps16
  go_wp2_with fail
  refine (plain_walk _).mono ?_; rintro e w1 ⟨rfl, b1⟩
  go_wp2_with fail
  refine (cell_walk _ _ _ _ _ _ _ (by decide) (by decide) (by decide) (by decide)).mono ?_; rintro e w2 k; obtain ⟨rfl, b2⟩ := R3.eq cel0 k
  go_wp2_with fail
  refine (plain_walk _).mono ?_; rintro e w3 ⟨rfl, b3⟩
  go_wp2_with fail
  refine (metres_walk _ _ _ _ _ _ _ _ (by decide) (by decide) (by decide) (by decide) (by decide) (by decide) (by decide) (by decide)).mono ?_; rintro e w4 k; obtain ⟨rfl, b4⟩ := R2.eq met0 k
  go_wp2_with fail
  refine (plain_walk _).mono ?_; rintro e w5 ⟨rfl, b5⟩
  go_wp2_with fail
  refine (bin_walk _ _ _ _ _ _ _ (by decide) (by decide) (by decide) (by decide)).mono ?_; rintro e w6 k; obtain ⟨rfl, b6⟩ := R2.eq bin0 k
  go_wp2_with fail
  refine (plain_walk _).mono ?_; rintro e w7 ⟨rfl, b7⟩
  go_wp2_with fail
  refine (speed_walk _ _ _ _ _ _ _ (by decide) (by decide) (by decide) (by decide)).mono ?_; rintro e w8 k; obtain ⟨rfl, b8⟩ := R2.eq spd0 k
  go_wp2_with fail
  go_ret
  have s1 := b1.size
  have s2 := b2.size
  have s3 := b3.size
  have s4 := b4.size
  have s5 := b5.size
  have s6 := b6.size
  have s7 := b7.size
  exact ⟨rfl, ((((((b1.trans (b2.mono s1)).trans (b3.mono (by omega))).trans (b4.mono (by omega))).trans (b5.mono (by omega))).trans (b6.mono (by omega))).trans (b7.mono (by omega))).trans (b8.mono (by omega))⟩
end Go.Proofs.Ytakkdkgbkedliaa
