import Derived.Test.YtgdkmakmdomdbaaPnO
import Derived.Test.YtgdkmakmdomdbaaPnI
import Derived.Lib.Mul64
import Derived.Laws.Bits64b
import Derived.Deep.QuietTactic
set_option autoImplicit false
set_option linter.unusedVariables false
namespace Go.Proofs.Ytgdkmakmdomdbaa
open Go.RowKit Lk Pn Go.Lib
theorem maskN (a : Nat) (ha : a < 18446744073709551616) : bits .and .u64 (a : Int) 4294967295 = ((a % 4294967296 : Nat) : Int) := by
  have h := bits_and_u64_nat a 4294967295 ha (by omega)
  have e : a &&& 4294967295 = a % 4294967296 := Nat.and_two_pow_sub_one_eq_mod a 32
  rw [e] at h
  exact h
theorem divN (a : Nat) : (a : Int) / 4294967296 = ((a / 4294967296 : Nat) : Int) := by omega
theorem mulN (a b : Nat) : (a : Int) * (b : Int) = ((a * b : Nat) : Int) := (Int.natCast_mul a b).symm
theorem addN (a b : Nat) : (a : Int) + (b : Int) = ((a + b : Nat) : Int) := (Int.natCast_add a b).symm
theorem wrapN (a : Nat) (ha : a < 18446744073709551616) : IntKind.u64.wrap (a : Int) = (a : Int) := by rw [IntKind.wrap_u64]; omega
theorem wrapM (a : Nat) : IntKind.u64.wrap (a : Int) = ((a % 18446744073709551616 : Nat) : Int) := by rw [IntKind.wrap_u64]; omega
set_option maxHeartbeats 1000000 in
theorem mul64_walk (x y : Nat) (hx : x < 18446744073709551616) (hy : y < 18446744073709551616) (w : World) :
    Calls Try.prog 41 #[.int .u64 x, .int .u64 y] w fun e w' => e = .returned (.tuple #[.int .u64 ((x * y / 18446744073709551616 : Nat) : Int), .int .u64 ((x * y % 18446744073709551616 : Nat) : Int)]) ∧ w = w' := by
  obtain ⟨bd, bt, bw, hhi⟩ := Lib.mul64_hi x y hx hy
  have ba := Lib.half_mul_le (a := x / 4294967296) (b := y / 4294967296) (by omega) (by omega)
  have bb := Lib.half_mul_le (a := x / 4294967296) (b := y % 4294967296) (by omega) (by omega)
  have bc := Lib.half_mul_le (a := x % 4294967296) (b := y / 4294967296) (by omega) (by omega)
  have ba' : x / 4294967296 * (y / 4294967296) < 18446744073709551616 := by omega
  have bb' : x / 4294967296 * (y % 4294967296) < 18446744073709551616 := by omega
  have bc' : x % 4294967296 * (y / 4294967296) < 18446744073709551616 := by omega
  have bh1 : x / 4294967296 * (y / 4294967296) + (x / 4294967296 * (y % 4294967296) + x % 4294967296 * (y % 4294967296) / 4294967296) / 4294967296 < 18446744073709551616 := by omega
  have bh : x / 4294967296 * (y / 4294967296) + (x / 4294967296 * (y % 4294967296) + x % 4294967296 * (y % 4294967296) / 4294967296) / 4294967296 + ((x / 4294967296 * (y % 4294967296) + x % 4294967296 * (y % 4294967296) / 4294967296) % 4294967296 + x % 4294967296 * (y / 4294967296)) / 4294967296 < 18446744073709551616 := by omega
  go_enter Try.func41, Try.ntmps41
  go_wp2
  simp only [maskN x hx, maskN y hy, divN, mulN, addN, wrapN _ bd, wrapN _ bb', wrapN _ bt, maskN _ bt, wrapN _ bc', wrapN _ bw, wrapN _ ba', wrapN _ bh1, wrapN _ bh, wrapM (x * y)]
  rw [hhi]
  refine bodyPost_ret (v := ?_) ?_ rfl ?_
  rotate_left
  · simp [results, Try.results41, go_sem]; rfl
  · exact ⟨rfl, rfl⟩
theorem times_walk (x y : Nat) (hx : x < 18446744073709551616) (hy : y < 18446744073709551616) (w : World) :
    Calls Try.prog 31 #[.int .u64 x, .int .u64 y] w fun e w' => e = .returned (.tuple #[.int .u64 ((x * y % 18446744073709551616 : Nat) : Int), .bool (decide (x * y ≤ 4611686018427387904))]) ∧ w = w' := by
  have M := mul64_walk x y hx hy w
  obtain ⟨lo, hlo⟩ : ∃ lo, lo = x * y % 18446744073709551616 := ⟨_, rfl⟩
  obtain ⟨hi, hhi⟩ : ∃ hi, hi = x * y / 18446744073709551616 := ⟨_, rfl⟩
  have h0 := Nat.div_add_mod (x * y) 18446744073709551616
  obtain ⟨z, hz⟩ : ∃ z, z = x * y := ⟨_, rfl⟩
  rw [← hlo, ← hhi] at M h0
  rw [← hlo]
  rw [← hz] at h0 ⊢
  clear hx hy hz
  by_cases h1 : hi = 0
  · by_cases h2 : lo ≤ 4611686018427387904
    · rw [decide_eq_true (show z ≤ 4611686018427387904 by omega)]
      subst h1
      clear hhi hlo h0
      go_enter Try.func31, Try.ntmps31
      go_wp2_with fail
      refine M.mono ?_
      rintro e w' ⟨rfl, rfl⟩
      clear M
      have q : ((lo : Int) ≤ 4611686018427387904) := by omega
      go_wp2_with fail
      go_ret2
      exact ⟨rfl, rfl⟩
    · rw [decide_eq_false (show ¬ z ≤ 4611686018427387904 by omega)]
      subst h1
      clear hhi hlo h0
      go_enter Try.func31, Try.ntmps31
      go_wp2_with fail
      refine M.mono ?_
      rintro e w' ⟨rfl, rfl⟩
      clear M
      have q : decide ((lo : Int) ≤ 4611686018427387904) = false := decide_eq_false (by omega)
      go_wp2_with fail
      go_ret2
      exact ⟨rfl, rfl⟩
  · rw [decide_eq_false (show ¬ z ≤ 4611686018427387904 by omega)]
    have q : ((hi : Int) == 0) = false := by rw [beq_eq_false_iff_ne]; omega
    clear hhi hlo h0
    go_enter Try.func31, Try.ntmps31
    go_wp2_with fail
    refine M.mono ?_
    rintro e w' ⟨rfl, rfl⟩
    clear M h1
    go_wp2_with fail
    go_ret2
    exact ⟨rfl, rfl⟩
theorem gcd_walk (a b : Nat) (ha : a < 18446744073709551616) (hb : b < 18446744073709551616) (w : World) :
    Calls Try.prog 30 #[.int .u64 a, .int .u64 b] w fun e w' => e = .returned (.int .u64 (Nat.gcd a b : Nat)) ∧ Below w.heap.size w w' := by
  go_enter Try.func30, Try.ntmps30
  go_wp2_with fail
  go_loopw [0, 1] (fun s0 s1 wr => ∃ x y : Nat, s0 = .int .u64 x ∧ s1 = .int .u64 y ∧ x < 18446744073709551616 ∧ y < 18446744073709551616 ∧ Nat.gcd x y = Nat.gcd a b ∧ Below w.heap.size w wr) (fun _ s1 _ => (intOf s1).toNat)
  case atStart => exact ⟨a, b, rfl, rfl, ha, hb, rfl, Below.refl _ _⟩
  case round =>
    obtain ⟨x, y, rfl, rfl, hx, hy, hg, hw⟩ := hrel
    have G := Lib.hid hg
    have HW := Lib.hid hw
    clear hg hw ha hb
    by_cases h0 : 0 < y
    · have h1 : ¬ (y : Int) = 0 := by omega
      have h2 : (0 : Int) < y := by omega
      have t2 : (x : Int).tmod (y : Int) = ((x % y : Nat) : Int) := by rw [Int.tmod_eq_emod_of_nonneg (by omega)]; omega
      have m1 : x % y < y := Nat.mod_lt _ h0
      go_wp2_with fail
      go_quiet (fail)
      go_wp2_with fail
      go_roundw
      case rel => exact ⟨y, x % y, rfl, by first | rfl | (congr 1; omega) | simp, hy, by omega, by rw [← G.out, Nat.gcd_comm x y]; exact (Nat.gcd_comm y (x % y)).trans (Nat.gcd_rec y x).symm, below_drewN HW.out _⟩
      case measure => simp [intOf]; omega
    · obtain rfl : y = 0 := by omega
      go_wp2_with fail
      go_ret
      refine ⟨?_, HW.out⟩
      rw [← G.out, Nat.gcd_zero_right]
      rfl
/-- may -/
theorem may_walk (t : Tk) (B : Bool) (hB : B = mayT t) (w : World) : Calls Try.prog 25 #[.agg #[.int .i64 t.ev, .int .i64 t.lg, .int .i64 t.rk]] w (fun e w' => e = .returned (.bool B) ∧ Below w.heap.size w w') := by
  obtain ⟨ev, lg, rk⟩ := t
  unfold mayT LONG at hB
  simp only at hB ⊢
  by_cases h1 : 1 ≤ ev
  · rw [decide_eq_true h1] at hB
    by_cases h2 : ev ≤ 1099511627776
    · rw [decide_eq_true h2] at hB
      by_cases h3 : 1 ≤ lg
      · rw [decide_eq_true h3] at hB
        by_cases h4 : lg ≤ ev
        · rw [decide_eq_true h4] at hB
          simp at hB; subst hB
          go_enter Try.func25, Try.ntmps25
          go_wp2_with fail
          go_ret
          exact ⟨rfl, by (repeat' (first | exact Below.refl _ _ | refine below_drewN ?_ _ | refine Below.setCell ?_ (by first | exact Nat.le_refl _ | (simp; done) | (simp; omega)) _ | refine Below.alloc ?_ (by first | exact Nat.le_refl _ | (simp; done) | (simp; omega)) _))⟩
        · rw [decide_eq_false h4] at hB
          simp at hB; subst hB
          have q : decide (lg ≤ ev) = false := decide_eq_false h4
          go_enter Try.func25, Try.ntmps25
          go_wp2_with fail
          go_ret
          exact ⟨rfl, by (repeat' (first | exact Below.refl _ _ | refine below_drewN ?_ _ | refine Below.setCell ?_ (by first | exact Nat.le_refl _ | (simp; done) | (simp; omega)) _ | refine Below.alloc ?_ (by first | exact Nat.le_refl _ | (simp; done) | (simp; omega)) _))⟩
      · rw [decide_eq_false h3] at hB
        simp at hB; subst hB
        have q : decide (1 ≤ lg) = false := decide_eq_false h3
        go_enter Try.func25, Try.ntmps25
        go_wp2_with fail
        go_ret
        exact ⟨rfl, by (repeat' (first | exact Below.refl _ _ | refine below_drewN ?_ _ | refine Below.setCell ?_ (by first | exact Nat.le_refl _ | (simp; done) | (simp; omega)) _ | refine Below.alloc ?_ (by first | exact Nat.le_refl _ | (simp; done) | (simp; omega)) _))⟩
    · rw [decide_eq_false h2] at hB
      simp at hB; subst hB
      have q : decide (ev ≤ 1099511627776) = false := decide_eq_false h2
      go_enter Try.func25, Try.ntmps25
      go_wp2_with fail
      go_ret
      exact ⟨rfl, by (repeat' (first | exact Below.refl _ _ | refine below_drewN ?_ _ | refine Below.setCell ?_ (by first | exact Nat.le_refl _ | (simp; done) | (simp; omega)) _ | refine Below.alloc ?_ (by first | exact Nat.le_refl _ | (simp; done) | (simp; omega)) _))⟩
  · rw [decide_eq_false h1] at hB
    simp at hB; subst hB
    have q : decide (1 ≤ ev) = false := decide_eq_false h1
    go_enter Try.func25, Try.ntmps25
    go_wp2_with fail
    go_ret
    exact ⟨rfl, by (repeat' (first | exact Below.refl _ _ | refine below_drewN ?_ _ | refine Below.setCell ?_ (by first | exact Nat.le_refl _ | (simp; done) | (simp; omega)) _ | refine Below.alloc ?_ (by first | exact Nat.le_refl _ | (simp; done) | (simp; omega)) _))⟩
theorem now_walk (p lb cap : Nat) (vs : List Value) (S : Nat → Prop) (st : Pl) (w : World) (h : PAx cY w S p lb cap vs st) : Calls Try.prog 15 #[.pointer (some ⟨p, 0, none⟩)] w (fun e w' => e = .returned (.int .i64 st.now) ∧ w = w') := by
  have p1 := h.p1
  clear h
  go_enter Try.func15, Try.ntmps15
  go_wp2_with fail
  go_ret
  exact ⟨rfl, rfl⟩
end Go.Proofs.Ytgdkmakmdomdbaa
