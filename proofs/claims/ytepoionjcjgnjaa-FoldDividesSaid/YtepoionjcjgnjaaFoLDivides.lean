/-
  What is proved: for every two numbers the law FoldDivides returns true, and its arguments read as before. No conditions.
-/
import Derived.Test.YtepoionjcjgnjaaFoX
import Derived.Test.YtepoionjcjgnjaaFlL
import Derived.Test.YtepoionjcjgnjaaFlS
import Derived.Test.YtepoionjcjgnjaaRows
import Derived.ProofKit
import Derived.OpenShut
set_option autoImplicit false
set_option linter.unusedVariables false
namespace Go.Proofs.Ytepoionjcjgnjaa
open Go.RowKit Go.ChangeShapes Go.WideShapes Go.ChangeAt Lk Fo
theorem Try.own : ownKnob Try.prog.godebug = none := by kernel_rfl
theorem Try.laidOut : laidOutB Try.prog = true := by kernel_rfl
set_option maxRecDepth 100000 in
set_option maxHeartbeats 4000000 in
theorem divides_law (a b : Int) (w : World) (a1 : -9223372036854775808 ≤ a) (a2 : a ≤ 9223372036854775807) (b1 : -9223372036854775808 ≤ b) (b2 : b ≤ 9223372036854775807) :
    Calls Try.prog 6 #[.int .i64 a, .int .i64 b] w (fun e w' => e = .returned (.bool true) ∧ Below w.heap.size w w') := by
  have C1 := fun w => gcd_walk a b w a1 a2 b1 b2
  by_cases hbad : a < 0 ∨ b < 0 ∨ 1099511627776 < a ∨ 1099511627776 < b
  · have E : gcdW a b = (⟨0, 0, 0⟩, 2) := by unfold gcdW; rw [if_pos hbad]
    rw [E] at C1
    clear E
    have hb' := Lib.hid hbad
    clear hbad
    by_cases c1 : a < 0 <;> by_cases c2 : b < 0 <;> by_cases c3 : 1099511627776 < a <;> by_cases c4 : 1099511627776 < b
    all_goals first
      | (exfalso; have := hb'.out; omega)
      | (go_enter Try.func6, Try.ntmps6
         go_wp2_with fail
         refine (C1 _).mono ?_; rintro e w1 ⟨rfl, h1⟩
         go_wp2_with fail
         refine (wakes_walk _).mono ?_; rintro e w3 ⟨rfl, h3⟩
         go_wp2_with fail
         go_ret
         exact ⟨rfl, h1.trans (h3.mono h1.size)⟩)
  · have E : gcdW a b = (gcdR a b, 0) := by unfold gcdW; rw [if_neg hbad]
    rw [E] at C1
    clear E
    have c1 : ¬ a < 0 := by omega
    have c2 : ¬ b < 0 := by omega
    have c3 : ¬ 1099511627776 < a := by omega
    have c4 : ¬ 1099511627776 < b := by omega
    obtain ⟨d1, d2, d3, d4⟩ := gcdR_divides (a := a) (b := b) (by omega) (by omega) (by omega) (by omega)
    clear hbad
    have HC := Lib.hid (And.intro c1 (And.intro c2 (And.intro c3 c4)))
    clear c1 c2 c3 c4
    generalize gcdR a b = t at *
    obtain ⟨g, x, y⟩ := t
    simp only at C1 d1 d2 d3 d4
    by_cases hg : 0 < g
    · obtain ⟨e1, e2⟩ := d3 hg
      have t1 : a.tmod g = 0 := Int.tmod_eq_zero_of_dvd (Int.dvd_of_emod_eq_zero e1)
      have t2 : b.tmod g = 0 := Int.tmod_eq_zero_of_dvd (Int.dvd_of_emod_eq_zero e2)
      have g0 : ¬ g = 0 := by omega
      have D2 := Lib.hid d2
      clear d2 d3
      by_cases z1 : a = 0
      · have z2 : ¬ b = 0 := fun h => g0 (D2.out.2 ⟨z1, h⟩)
        have y1 : (g == 0) = false := beq_eq_false_iff_ne.2 g0
        have y2 : (b == 0) = false := beq_eq_false_iff_ne.2 z2
        subst z1
        have w0 : wrap64 0 = 0 := wrap_self (by omega) (by omega)
        rw [Int.zero_mul, w0, Int.zero_add] at d4
        clear e1 e2
        go_enter Try.func6, Try.ntmps6
        go_wp2_with fail
        refine (C1 _).mono ?_; rintro e w1 ⟨rfl, h1⟩
        obtain ⟨c1, c2, c3, c4⟩ := HC.out
        go_wp2_with fail
        refine (wakes_walk _).mono ?_; rintro e w3 ⟨rfl, h3⟩
        go_wp2_with fail
        go_ret
        exact ⟨rfl, h1.trans (h3.mono h1.size)⟩
      · have y1 : (g == 0) = false := beq_eq_false_iff_ne.2 g0
        have y2 : (a == 0) = false := beq_eq_false_iff_ne.2 z1
        clear e1 e2
        go_enter Try.func6, Try.ntmps6
        go_wp2_with fail
        refine (C1 _).mono ?_; rintro e w1 ⟨rfl, h1⟩
        obtain ⟨c1, c2, c3, c4⟩ := HC.out
        go_wp2_with fail
        refine (wakes_walk _).mono ?_; rintro e w3 ⟨rfl, h3⟩
        go_wp2_with fail
        go_ret
        exact ⟨rfl, h1.trans (h3.mono h1.size)⟩
    · have g0 : g = 0 := by omega
      obtain ⟨z1, z2⟩ := d2.1 g0
      subst g0 z1 z2
      clear d1 d2 d3
      go_enter Try.func6, Try.ntmps6
      go_wp2_with fail
      refine (C1 _).mono ?_; rintro e w1 ⟨rfl, h1⟩
      obtain ⟨c1, c2, c3, c4⟩ := HC.out
      go_wp2_with fail
      refine (wakes_walk _).mono ?_; rintro e w3 ⟨rfl, h3⟩
      go_wp2_with fail
      go_ret
      exact ⟨rfl, h1.trans (h3.mono h1.size)⟩
theorem divides_args (W : World) (base : Nat) (args : Array Value) (hsz : args.size = Try.f6.params.size) (hval : ∀ (j : Nat) t v, Try.f6.params[j]? = some t → args[j]? = some v → Value.okWide Try.prog W .any base t v) :
    Calls Try.prog 6 args W (fun e w' => e = .returned (.bool true) ∧ Below W.heap.size W w') := by
  rw [Try.params6] at hval hsz
  obtain ⟨l⟩ := args
  match l, hsz with
  | [v0, v1], _ =>
    obtain ⟨x0, rfl, lo0, hi0⟩ := ok_int (t := 2) Try.underlying2 (hval 0 2 v0 rfl rfl)
    obtain ⟨x1, rfl, lo1, hi1⟩ := ok_int (t := 2) Try.underlying2 (hval 1 2 v1 rfl rfl)
    exact divides_law x0 x1 W lo0 hi0 lo1 hi1

set_option maxRecDepth 100000 in
theorem divides_lifted (os : Os) (started : os.Started) (H : Type) (enc : TypeId × Value → H) :
    ReturnsInHanded {} Try.checked os 6 .any (Rows.foldDividesSpec.pre6 enc Try.prog Try.f6 Rows.foldDividesRow.domain false) (Rows.foldDividesSpec.post enc Try.prog Try.f6 false true false false) :=
  law_lifted (C := Try.checked) Try.own started (by kernel_rfl) Try.func6
    (ChangeSpec.witness6 (enc := enc) (C := Try.checked) false ⟨#[], #[.int .i64 0, .int .i64 0], []⟩ 8 (by kernel_rfl) (by kernel_rfl) (by kernel_rfl) (by kernel_rfl))
    Try.laidOut (fun t ht => by have ht2 : t ∈ Try.f6.params.toList := ht; rw [Try.params6] at ht2; simp only [List.mem_cons, List.not_mem_nil, or_false, or_self] at ht2; subst ht2; exact ⟨by kernel_rfl, of_decide_eq_true (by kernel_rfl)⟩)
    rfl Try.underlying4 rfl (fun ds hd => by have hd2 : ds.length = Try.f6.params.size := hd; rw [Try.params6] at hd2; match ds, hd2 with | [d0, d1], _ => exact ⟨rfl, rfl, rfl⟩) divides_args

theorem divides_holds : Rows.FoldDividesSaid :=
  OpenClaim.holds_of_wide 6 Try.f6 rfl rfl rfl rfl rfl rfl rfl ⟨rfl, rfl, rfl, rfl, rfl⟩ rfl rfl rfl rfl rfl (by kernel_rfl) Try.func6 (by kernel_rfl)
    (of_decide_eq_true (by kernel_rfl)) (by unfold Func.isWrapper; first | (rw [if_pos (by decide +kernel)]; kernel_rfl) | (rw [if_neg (by decide +kernel)]; exact ⟨rfl, rfl⟩))
    (fun os started H enc _ => divides_lifted os started H enc)
#print axioms divides_holds
end Go.Proofs.Ytepoionjcjgnjaa
