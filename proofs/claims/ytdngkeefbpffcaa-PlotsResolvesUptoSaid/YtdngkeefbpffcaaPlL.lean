import Derived.Test.YtdngkeefbpffcaaPlH
import Derived.Test.YtdngkeefbpffcaaPlK
set_option autoImplicit false
set_option linter.unusedVariables false
namespace Go.Proofs.Ytdngkeefbpffcaa
open Go.RowKit Lk Pl
/-- the three plots of wakes -/
def wk3 : List Pt := [⟨4629137466983448576, 0, 4611686018427387904, 0, 0⟩, ⟨4622945017495814144, 0, 4607182418800017408, 0, 0⟩, ⟨4621819117588971520, 0, 4613937818241073152, 0, 0⟩]
theorem wk3_order : insF (ltI wk3) 0 3 (List.range 3) = [2, 0, 1] := by decide +kernel
theorem beat_walk (n : Int) (w : World) : Calls Try.prog 19 #[.int .i64 n] w (fun e w' => e = .returned (btv 4621819117588971520 4602678819172646912 4652007308841189376 n 4) ∧ Below w.heap.size w w') := by
  go_enter Try.func19, Try.ntmps19
  go_wp2_with fail
  refine bodyPost_ret (v := ?_) ?_ rfl ?_
  rotate_left
  · simp [results, Try.results19, go_sem]; rfl
  · exact ⟨rfl, by (repeat' (first | exact Below.refl _ _ | refine below_drewN ?_ _ | refine Below.setCell ?_ (by first | exact Nat.le_refl _ | (simp; done) | (simp; omega)) _ | refine Below.alloc ?_ (by first | exact Nat.le_refl _ | (simp; done) | (simp; omega)) _))⟩
theorem wk_oneE : oneE 4621819117588971520 4602678819172646912 4652007308841189376 5 4 0 4612811918334230528 4621256167635550208 4613937818241073152 = 0 := by decide +kernel
theorem wk_oneO : oneO 4621819117588971520 4602678819172646912 4652007308841189376 5 4 0 4612811918334230528 4621256167635550208 4613937818241073152 = ⟨4629137466983448576, 9223372036854775808, 4621256167635550208, 0, 4613937818241073152⟩ := by kernel_rfl
end Go.Proofs.Ytdngkeefbpffcaa
