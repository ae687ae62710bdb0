/-
  What is proved: the law SmoothStraight returns true, whatever its arguments. Conditions: those of the statement alone.
-/
import Derived.Test.YtoobpiednigcgaaSmS3
import Derived.Test.YtoobpiednigcgaaFlL
import Derived.Test.YtoobpiednigcgaaRows
import Derived.ProofKit
import Derived.OpenShut
set_option autoImplicit false
set_option linter.unusedVariables false
namespace Go.Proofs.Ytoobpiednigcgaa
open Go.RowKit Go.ChangeShapes Go.WideShapes Go.ChangeAt Lk
theorem Try.own : ownKnob Try.prog.godebug = none := by kernel_rfl
theorem Try.laidOut : laidOutB Try.prog = true := by kernel_rfl
theorem straight_law (a b c h n : Int) (w : World) (a1 : -9223372036854775808 ≤ a) (a2 : a ≤ 9223372036854775807) (b1 : -9223372036854775808 ≤ b) (b2 : b ≤ 9223372036854775807) (c1 : -9223372036854775808 ≤ c) (c2 : c ≤ 9223372036854775807) (h1 : -9223372036854775808 ≤ h) (h2 : h ≤ 9223372036854775807) (n1 : -9223372036854775808 ≤ n) (n2 : n ≤ 9223372036854775807) :
    Calls Try.prog 5 #[.int .i64 a, .int .i64 b, .int .i64 c, .int .i64 h, .int .i64 n] w (Tru w) := by
  by_cases s0 : -1024 < a ∧ a < 1024
  case neg => exact str_no0 a b c h n w s0
  by_cases s1 : -1024 < b ∧ b < 1024
  case neg => exact str_no1 a b c h n w s0 s1
  by_cases s2 : -1024 < c ∧ c < 1024
  case neg => exact str_no2 a b c h n w s0 s1 s2
  by_cases s3 : -1024 < h ∧ h < 1024
  case neg => exact str_no3 a b c h n w s0 s1 s2 s3
  by_cases s4 : h = 0
  · exact str_no4 a b c h n w s0 s1 s2 s3 s4
  by_cases s5 : n < 3
  · exact str_no5 a b c h n w s0 s1 s2 s3 s4 s5
  by_cases s6 : 99 < n
  · exact str_no6 a b c h n w s0 s1 s2 s3 s4 (by omega) s6
  by_cases s7 : n.tmod 2 = 0
  · exact str_no7 a b c h n w s0 s1 s2 s3 s4 (by omega) (by omega) s7
  exact str_yes a b c h n w s0 s1 s2 s3 s4 (by omega) (by omega) s7
theorem straight_args (W : World) (base : Nat) (args : Array Value) (hsz : args.size = Try.f5.params.size) (hval : ∀ (j : Nat) t v, Try.f5.params[j]? = some t → args[j]? = some v → Value.okWide Try.prog W .any base t v) :
    Calls Try.prog 5 args W (fun e w' => e = .returned (.bool true) ∧ Below W.heap.size W w') := by
  rw [Try.params5] at hval hsz
  obtain ⟨l⟩ := args
  match l, hsz with
  | [v0, v1, v2, v3, v4], _ =>
    obtain ⟨x0, rfl, lo0, hi0⟩ := ok_int (t := 3) Try.underlying3 (hval 0 3 v0 rfl rfl)
    obtain ⟨x1, rfl, lo1, hi1⟩ := ok_int (t := 3) Try.underlying3 (hval 1 3 v1 rfl rfl)
    obtain ⟨x2, rfl, lo2, hi2⟩ := ok_int (t := 3) Try.underlying3 (hval 2 3 v2 rfl rfl)
    obtain ⟨x3, rfl, lo3, hi3⟩ := ok_int (t := 3) Try.underlying3 (hval 3 3 v3 rfl rfl)
    obtain ⟨x4, rfl, lo4, hi4⟩ := ok_int (t := 3) Try.underlying3 (hval 4 3 v4 rfl rfl)
    exact straight_law x0 x1 x2 x3 x4 W lo0 hi0 lo1 hi1 lo2 hi2 lo3 hi3 lo4 hi4

set_option maxRecDepth 100000 in
theorem straight_lifted (os : Os) (started : os.Started) (H : Type) (enc : TypeId × Value → H) :
    ReturnsInHanded {} Try.checked os 5 .any (Rows.smoothStraightSpec.pre6 enc Try.prog Try.f5 Rows.smoothStraightRow.domain false) (Rows.smoothStraightSpec.post enc Try.prog Try.f5 false true false false) :=
  law_lifted (C := Try.checked) Try.own started (by kernel_rfl) Try.func5
    (ChangeSpec.witness6 (enc := enc) (C := Try.checked) false ⟨#[], #[.int .i64 0, .int .i64 0, .int .i64 0, .int .i64 0, .int .i64 0], []⟩ 8 (by kernel_rfl) (by kernel_rfl) (by kernel_rfl) (by kernel_rfl))
    Try.laidOut (fun t ht => by have ht2 : t ∈ Try.f5.params.toList := ht; rw [Try.params5] at ht2; simp only [List.mem_cons, List.not_mem_nil, or_false, or_self] at ht2; subst ht2; exact ⟨by kernel_rfl, of_decide_eq_true (by kernel_rfl)⟩)
    rfl Try.underlying4 rfl (fun ds hd => by have hd2 : ds.length = Try.f5.params.size := hd; rw [Try.params5] at hd2; match ds, hd2 with | [d0, d1, d2, d3, d4], _ => exact ⟨rfl, rfl, rfl⟩) straight_args

theorem straight_holds : Rows.SmoothStraightSaid :=
  OpenClaim.holds_of_wide 5 Try.f5 rfl rfl rfl rfl rfl rfl rfl ⟨rfl, rfl, rfl, rfl, rfl⟩ rfl rfl rfl rfl rfl (by kernel_rfl) Try.func5 (by kernel_rfl)
    (of_decide_eq_true (by kernel_rfl)) (by unfold Func.isWrapper; first | (rw [if_pos (by decide +kernel)]; kernel_rfl) | (rw [if_neg (by decide +kernel)]; exact ⟨rfl, rfl⟩))
    (fun os started H enc _ => straight_lifted os started H enc)
#print axioms straight_holds
end Go.Proofs.Ytoobpiednigcgaa
