import Derived.Test.YtoobpiednigcgaaSmS
import Derived.Test.YtoobpiednigcgaaSmY
set_option autoImplicit false
set_option linter.unusedVariables false
namespace Go.Proofs.Ytoobpiednigcgaa
open Go.RowKit Lk
abbrev Tru (w : World) (e : Ending) (w' : World) : Prop := e = .returned (.bool true) ∧ Below w.heap.size w w'

set_option maxRecDepth 100000 in
set_option maxHeartbeats 4000000 in
theorem str_no0 (a b c h n : Int) (w : World)  (g : ¬ (-1024 < a ∧ a < 1024)) : Calls Try.prog 5 #[.int .i64 a, .int .i64 b, .int .i64 c, .int .i64 h, .int .i64 n] w (Tru w) := by
  have Sa := Lib.hid (decide_eq_false g).symm
  clear g
  go_enter Try.func5, Try.ntmps5
  go_wp2_with fail
  refine (works_walk _).mono ?_
  rintro e w1 ⟨rfl, b1⟩
  have B1 := Lib.hid b1
  clear b1
  go_wp2_with fail
  refine (small_walk a false Sa.out _).mono ?_; rintro e w' ⟨rfl, rfl⟩
  go_wp2_with fail
  refine (works_walk _).mono ?_
  rintro e w2 ⟨rfl, b2⟩
  go_wp2_with fail
  go_ret
  exact ⟨rfl, B1.out.trans (b2.mono B1.out.size)⟩
set_option maxRecDepth 100000 in
set_option maxHeartbeats 4000000 in
theorem str_no1 (a b c h n : Int) (w : World) (sa : -1024 < a ∧ a < 1024) (g : ¬ (-1024 < b ∧ b < 1024)) : Calls Try.prog 5 #[.int .i64 a, .int .i64 b, .int .i64 c, .int .i64 h, .int .i64 n] w (Tru w) := by
  have Sa := Lib.hid (decide_eq_true sa).symm
  have Sb := Lib.hid (decide_eq_false g).symm
  clear sa g
  go_enter Try.func5, Try.ntmps5
  go_wp2_with fail
  refine (works_walk _).mono ?_
  rintro e w1 ⟨rfl, b1⟩
  have B1 := Lib.hid b1
  clear b1
  go_wp2_with fail
  refine (small_walk _ true Sa.out _).mono ?_; rintro e w' ⟨rfl, rfl⟩
  go_wp2_with fail
  refine (small_walk b false Sb.out _).mono ?_; rintro e w' ⟨rfl, rfl⟩
  go_wp2_with fail
  refine (works_walk _).mono ?_
  rintro e w2 ⟨rfl, b2⟩
  go_wp2_with fail
  go_ret
  exact ⟨rfl, B1.out.trans (b2.mono B1.out.size)⟩
set_option maxRecDepth 100000 in
set_option maxHeartbeats 4000000 in
theorem str_no2 (a b c h n : Int) (w : World) (sa : -1024 < a ∧ a < 1024) (sb : -1024 < b ∧ b < 1024) (g : ¬ (-1024 < c ∧ c < 1024)) : Calls Try.prog 5 #[.int .i64 a, .int .i64 b, .int .i64 c, .int .i64 h, .int .i64 n] w (Tru w) := by
  have Sa := Lib.hid (decide_eq_true sa).symm
  have Sb := Lib.hid (decide_eq_true sb).symm
  have Sc := Lib.hid (decide_eq_false g).symm
  clear sa sb g
  go_enter Try.func5, Try.ntmps5
  go_wp2_with fail
  refine (works_walk _).mono ?_
  rintro e w1 ⟨rfl, b1⟩
  have B1 := Lib.hid b1
  clear b1
  go_wp2_with fail
  refine (small_walk _ true Sa.out _).mono ?_; rintro e w' ⟨rfl, rfl⟩
  go_wp2_with fail
  refine (small_walk _ true Sb.out _).mono ?_; rintro e w' ⟨rfl, rfl⟩
  go_wp2_with fail
  refine (small_walk c false Sc.out _).mono ?_; rintro e w' ⟨rfl, rfl⟩
  go_wp2_with fail
  refine (works_walk _).mono ?_
  rintro e w2 ⟨rfl, b2⟩
  go_wp2_with fail
  go_ret
  exact ⟨rfl, B1.out.trans (b2.mono B1.out.size)⟩
set_option maxRecDepth 100000 in
set_option maxHeartbeats 4000000 in
theorem str_no3 (a b c h n : Int) (w : World) (sa : -1024 < a ∧ a < 1024) (sb : -1024 < b ∧ b < 1024) (sc : -1024 < c ∧ c < 1024) (g : ¬ (-1024 < h ∧ h < 1024)) : Calls Try.prog 5 #[.int .i64 a, .int .i64 b, .int .i64 c, .int .i64 h, .int .i64 n] w (Tru w) := by
  have Sa := Lib.hid (decide_eq_true sa).symm
  have Sb := Lib.hid (decide_eq_true sb).symm
  have Sc := Lib.hid (decide_eq_true sc).symm
  have Sh := Lib.hid (decide_eq_false g).symm
  clear sa sb sc g
  go_enter Try.func5, Try.ntmps5
  go_wp2_with fail
  refine (works_walk _).mono ?_
  rintro e w1 ⟨rfl, b1⟩
  have B1 := Lib.hid b1
  clear b1
  go_wp2_with fail
  refine (small_walk _ true Sa.out _).mono ?_; rintro e w' ⟨rfl, rfl⟩
  go_wp2_with fail
  refine (small_walk _ true Sb.out _).mono ?_; rintro e w' ⟨rfl, rfl⟩
  go_wp2_with fail
  refine (small_walk _ true Sc.out _).mono ?_; rintro e w' ⟨rfl, rfl⟩
  go_wp2_with fail
  refine (small_walk h false Sh.out _).mono ?_; rintro e w' ⟨rfl, rfl⟩
  go_wp2_with fail
  refine (works_walk _).mono ?_
  rintro e w2 ⟨rfl, b2⟩
  go_wp2_with fail
  go_ret
  exact ⟨rfl, B1.out.trans (b2.mono B1.out.size)⟩
set_option maxRecDepth 100000 in
set_option maxHeartbeats 4000000 in
theorem str_no4 (a b c h n : Int) (w : World) (sa : -1024 < a ∧ a < 1024) (sb : -1024 < b ∧ b < 1024) (sc : -1024 < c ∧ c < 1024) (sh : -1024 < h ∧ h < 1024) (g : h = 0) : Calls Try.prog 5 #[.int .i64 a, .int .i64 b, .int .i64 c, .int .i64 h, .int .i64 n] w (Tru w) := by
  have Sa := Lib.hid (decide_eq_true sa).symm
  have Sb := Lib.hid (decide_eq_true sb).symm
  have Sc := Lib.hid (decide_eq_true sc).symm
  have Sh := Lib.hid (decide_eq_true sh).symm
  subst g
  clear sa sb sc sh
  go_enter Try.func5, Try.ntmps5
  go_wp2_with fail
  refine (works_walk _).mono ?_
  rintro e w1 ⟨rfl, b1⟩
  have B1 := Lib.hid b1
  clear b1
  go_wp2_with fail
  refine (small_walk _ true Sa.out _).mono ?_; rintro e w' ⟨rfl, rfl⟩
  go_wp2_with fail
  refine (small_walk _ true Sb.out _).mono ?_; rintro e w' ⟨rfl, rfl⟩
  go_wp2_with fail
  refine (small_walk _ true Sc.out _).mono ?_; rintro e w' ⟨rfl, rfl⟩
  go_wp2_with fail
  refine (small_walk _ true Sh.out _).mono ?_; rintro e w' ⟨rfl, rfl⟩
  go_wp2_with fail
  refine (works_walk _).mono ?_
  rintro e w2 ⟨rfl, b2⟩
  go_wp2_with fail
  go_ret
  exact ⟨rfl, B1.out.trans (b2.mono B1.out.size)⟩
set_option maxRecDepth 100000 in
set_option maxHeartbeats 4000000 in
theorem str_no5 (a b c h n : Int) (w : World) (sa : -1024 < a ∧ a < 1024) (sb : -1024 < b ∧ b < 1024) (sc : -1024 < c ∧ c < 1024) (sh : -1024 < h ∧ h < 1024) (g0 : h ≠ 0) (g : n < 3) : Calls Try.prog 5 #[.int .i64 a, .int .i64 b, .int .i64 c, .int .i64 h, .int .i64 n] w (Tru w) := by
  have Sa := Lib.hid (decide_eq_true sa).symm
  have Sb := Lib.hid (decide_eq_true sb).symm
  have Sc := Lib.hid (decide_eq_true sc).symm
  have Sh := Lib.hid (decide_eq_true sh).symm
  clear sa sb sc sh
  go_enter Try.func5, Try.ntmps5
  go_wp2_with fail
  refine (works_walk _).mono ?_
  rintro e w1 ⟨rfl, b1⟩
  have B1 := Lib.hid b1
  clear b1
  go_wp2_with fail
  refine (small_walk _ true Sa.out _).mono ?_; rintro e w' ⟨rfl, rfl⟩
  go_wp2_with fail
  refine (small_walk _ true Sb.out _).mono ?_; rintro e w' ⟨rfl, rfl⟩
  go_wp2_with fail
  refine (small_walk _ true Sc.out _).mono ?_; rintro e w' ⟨rfl, rfl⟩
  go_wp2_with fail
  refine (small_walk _ true Sh.out _).mono ?_; rintro e w' ⟨rfl, rfl⟩
  go_wp2_with fail
  refine (works_walk _).mono ?_
  rintro e w2 ⟨rfl, b2⟩
  go_wp2_with fail
  go_ret
  exact ⟨rfl, B1.out.trans (b2.mono B1.out.size)⟩
set_option maxRecDepth 100000 in
set_option maxHeartbeats 4000000 in
theorem str_no6 (a b c h n : Int) (w : World) (sa : -1024 < a ∧ a < 1024) (sb : -1024 < b ∧ b < 1024) (sc : -1024 < c ∧ c < 1024) (sh : -1024 < h ∧ h < 1024) (g0 : h ≠ 0) (g1 : 3 ≤ n) (g : 99 < n) : Calls Try.prog 5 #[.int .i64 a, .int .i64 b, .int .i64 c, .int .i64 h, .int .i64 n] w (Tru w) := by
  have Sa := Lib.hid (decide_eq_true sa).symm
  have Sb := Lib.hid (decide_eq_true sb).symm
  have Sc := Lib.hid (decide_eq_true sc).symm
  have Sh := Lib.hid (decide_eq_true sh).symm
  clear sa sb sc sh
  go_enter Try.func5, Try.ntmps5
  go_wp2_with fail
  refine (works_walk _).mono ?_
  rintro e w1 ⟨rfl, b1⟩
  have B1 := Lib.hid b1
  clear b1
  go_wp2_with fail
  refine (small_walk _ true Sa.out _).mono ?_; rintro e w' ⟨rfl, rfl⟩
  go_wp2_with fail
  refine (small_walk _ true Sb.out _).mono ?_; rintro e w' ⟨rfl, rfl⟩
  go_wp2_with fail
  refine (small_walk _ true Sc.out _).mono ?_; rintro e w' ⟨rfl, rfl⟩
  go_wp2_with fail
  refine (small_walk _ true Sh.out _).mono ?_; rintro e w' ⟨rfl, rfl⟩
  go_wp2_with fail
  refine (works_walk _).mono ?_
  rintro e w2 ⟨rfl, b2⟩
  go_wp2_with fail
  go_ret
  exact ⟨rfl, B1.out.trans (b2.mono B1.out.size)⟩
set_option maxRecDepth 100000 in
set_option maxHeartbeats 4000000 in
theorem str_no7 (a b c h n : Int) (w : World) (sa : -1024 < a ∧ a < 1024) (sb : -1024 < b ∧ b < 1024) (sc : -1024 < c ∧ c < 1024) (sh : -1024 < h ∧ h < 1024) (g0 : h ≠ 0) (g1 : 3 ≤ n) (g2 : n ≤ 99) (g : n.tmod 2 = 0) : Calls Try.prog 5 #[.int .i64 a, .int .i64 b, .int .i64 c, .int .i64 h, .int .i64 n] w (Tru w) := by
  have Sa := Lib.hid (decide_eq_true sa).symm
  have Sb := Lib.hid (decide_eq_true sb).symm
  have Sc := Lib.hid (decide_eq_true sc).symm
  have Sh := Lib.hid (decide_eq_true sh).symm
  clear sa sb sc sh
  go_enter Try.func5, Try.ntmps5
  go_wp2_with fail
  refine (works_walk _).mono ?_
  rintro e w1 ⟨rfl, b1⟩
  have B1 := Lib.hid b1
  clear b1
  go_wp2_with fail
  refine (small_walk _ true Sa.out _).mono ?_; rintro e w' ⟨rfl, rfl⟩
  go_wp2_with fail
  refine (small_walk _ true Sb.out _).mono ?_; rintro e w' ⟨rfl, rfl⟩
  go_wp2_with fail
  refine (small_walk _ true Sc.out _).mono ?_; rintro e w' ⟨rfl, rfl⟩
  go_wp2_with fail
  refine (small_walk _ true Sh.out _).mono ?_; rintro e w' ⟨rfl, rfl⟩
  go_wp2_with fail
  refine (works_walk _).mono ?_
  rintro e w2 ⟨rfl, b2⟩
  go_wp2_with fail
  go_ret
  exact ⟨rfl, B1.out.trans (b2.mono B1.out.size)⟩
end Go.Proofs.Ytoobpiednigcgaa
