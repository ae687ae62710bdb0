import Derived.Test.YtepoionjcjgnjaaFoM
import Derived.Lib.Mul64
import Derived.Laws.Bits64b
import Derived.Deep.QuietTactic
set_option autoImplicit false
set_option linter.unusedVariables false
namespace Go.Proofs.Ytepoionjcjgnjaa
open Go.RowKit Lk Fo Go.Lib
theorem maskN (a : Nat) (ha : a < 18446744073709551616) : bits .and .u64 (a : Int) 4294967295 = ((a % 4294967296 : Nat) : Int) := by
  have h := bits_and_u64_nat a 4294967295 ha (by omega)
  have e : a &&& 4294967295 = a % 4294967296 := Nat.and_two_pow_sub_one_eq_mod a 32
  rw [e] at h
  exact h
theorem divN (a : Nat) : (a : Int) / 4294967296 = ((a / 4294967296 : Nat) : Int) := by omega
theorem mulN (a b : Nat) : (a : Int) * (b : Int) = ((a * b : Nat) : Int) := (Int.natCast_mul a b).symm
theorem addN (a b : Nat) : (a : Int) + (b : Int) = ((a + b : Nat) : Int) := (Int.natCast_add a b).symm
theorem wrapN (a : Nat) (ha : a < 18446744073709551616) : IntKind.u64.wrap (a : Int) = (a : Int) := by rw [IntKind.wrap_u64]; omega
theorem wrapM (a : Nat) : IntKind.u64.wrap (a : Int) = ((a % 18446744073709551616 : Nat) : Int) := by rw [IntKind.wrap_u64]; omega
set_option maxHeartbeats 1000000 in
theorem mul64_walk (x y : Nat) (hx : x < 18446744073709551616) (hy : y < 18446744073709551616) (w : World) :
    Calls Try.prog 38 #[.int .u64 x, .int .u64 y] w fun e w' => e = .returned (.tuple #[.int .u64 ((x * y / 18446744073709551616 : Nat) : Int), .int .u64 ((x * y % 18446744073709551616 : Nat) : Int)]) ∧ w = w' := by
  obtain ⟨bd, bt, bw, hhi⟩ := Lib.mul64_hi x y hx hy
  have ba := Lib.half_mul_le (a := x / 4294967296) (b := y / 4294967296) (by omega) (by omega)
  have bb := Lib.half_mul_le (a := x / 4294967296) (b := y % 4294967296) (by omega) (by omega)
  have bc := Lib.half_mul_le (a := x % 4294967296) (b := y / 4294967296) (by omega) (by omega)
  have ba' : x / 4294967296 * (y / 4294967296) < 18446744073709551616 := by omega
  have bb' : x / 4294967296 * (y % 4294967296) < 18446744073709551616 := by omega
  have bc' : x % 4294967296 * (y / 4294967296) < 18446744073709551616 := by omega
  have bh1 : x / 4294967296 * (y / 4294967296) + (x / 4294967296 * (y % 4294967296) + x % 4294967296 * (y % 4294967296) / 4294967296) / 4294967296 < 18446744073709551616 := by omega
  have bh : x / 4294967296 * (y / 4294967296) + (x / 4294967296 * (y % 4294967296) + x % 4294967296 * (y % 4294967296) / 4294967296) / 4294967296 + ((x / 4294967296 * (y % 4294967296) + x % 4294967296 * (y % 4294967296) / 4294967296) % 4294967296 + x % 4294967296 * (y / 4294967296)) / 4294967296 < 18446744073709551616 := by omega
  go_enter Try.func38, Try.ntmps38
  go_wp2
  simp only [maskN x hx, maskN y hy, divN, mulN, addN, wrapN _ bd, wrapN _ bb', wrapN _ bt, maskN _ bt, wrapN _ bc', wrapN _ bw, wrapN _ ba', wrapN _ bh1, wrapN _ bh, wrapM (x * y)]
  rw [hhi]
  refine bodyPost_ret (v := ?_) ?_ rfl ?_
  rotate_left
  · simp [results, Try.results38, go_sem]; rfl
  · exact ⟨rfl, rfl⟩
theorem ret_u2 {a b a' b' : Int} (h : a = a') (k : b = b') : Ending.returned (.tuple #[.int .u64 a, .int .u64 b]) = .returned (.tuple #[.int .u64 a', .int .u64 b']) := by rw [h, k]
theorem div64_small (lo y : Nat) (hx : lo < 18446744073709551616) (hy : y < 18446744073709551616) (y0 : 0 < y) (w : World) :
    Calls Try.prog 39 #[.int .u64 0, .int .u64 lo, .int .u64 y] w fun e w' => e = .returned (.tuple #[.int .u64 ((lo / y : Nat) : Int), .int .u64 ((lo % y : Nat) : Int)]) ∧ Below w.heap.size w w' := by
  have h1 : ¬ (y : Int) = 0 := by omega
  have h2 : ¬ (y : Int) ≤ 0 := by omega
  have t1 : (lo : Int).tdiv (y : Int) = ((lo / y : Nat) : Int) := by rw [Int.tdiv_eq_ediv_of_nonneg (by omega)]; omega
  have t2 : (lo : Int).tmod (y : Int) = ((lo % y : Nat) : Int) := by rw [Int.tmod_eq_emod_of_nonneg (by omega)]; omega
  have d1 : lo / y < 18446744073709551616 := Nat.lt_of_le_of_lt (Nat.div_le_self _ _) hx
  have w1 := wrapN _ d1
  have d2 : lo % y < 18446744073709551616 := Nat.lt_of_le_of_lt (Nat.mod_le _ _) hx
  have w2 := wrapN _ d2
  go_enter Try.func39, Try.ntmps39
  go_wp2_with fail
  go_quiet (fail)
  go_wp2_with fail
  refine bodyPost_ret (v := ?_) ?_ rfl ?_
  rotate_left
  · simp [results, Try.results39, go_sem]; rfl
  · refine ⟨ret_u2 ?_ (by omega), by (repeat' (first | assumption | exact Below.refl _ _ | refine below_drewN ?_ _ | refine Below.drew ?_ | refine Below.setCell ?_ (by first | exact Nat.le_refl _ | (simp; done) | (simp; omega)) _ | refine Below.alloc ?_ (by first | exact Nat.le_refl _ | (simp; done) | (simp; omega)) _))⟩
    rw [show (lo : Int) / (y : Int) = ((lo / y : Nat) : Int) by omega, w1]
/-- the program's product modulo m, where Div64 tells its remainder -/
def DivOk (B : Int) : Prop := ∀ (hi lo m : Nat) (w : World), hi < m → lo < 18446744073709551616 → (m : Int) ≤ B → hi < 65536 → (m ≤ 4294967296 → hi = 0) → Calls Try.prog 39 #[.int .u64 hi, .int .u64 lo, .int .u64 m] w fun e w' => (∃ q : Int, e = .returned (.tuple #[.int .u64 q, .int .u64 (((hi * 18446744073709551616 + lo) % m : Nat) : Int)])) ∧ Below w.heap.size w w'
theorem times_walk (B a b m : Int) (w : World) (hD : DivOk B) (hB : B ≤ 1099511627776) (a0 : 0 ≤ a) (a1 : a < m) (b0 : 0 ≤ b) (b1 : b < m) (hm : m ≤ B) :
    Calls Try.prog 28 #[.int .i64 a, .int .i64 b, .int .i64 m] w (fun e w' => e = .returned (.int .i64 (a * b % m)) ∧ Below w.heap.size w w') := by
  obtain ⟨x, rfl⟩ := Int.eq_ofNat_of_zero_le a0
  obtain ⟨y, rfl⟩ := Int.eq_ofNat_of_zero_le b0
  obtain ⟨n, rfl⟩ := Int.eq_ofNat_of_zero_le (show 0 ≤ m by omega)
  have wx := wrapN x (by omega)
  have wy := wrapN y (by omega)
  have wn := wrapN n (by omega)
  have hp : x * y < 1208925819614629174706176 := by
    have : x * y ≤ 1099511627776 * 1099511627776 := Nat.mul_le_mul (by omega) (by omega)
    have h2 : x * y ≤ x * 1099511627776 := Nat.mul_le_mul_left _ (by omega)
    omega
  have hh : x * y / 18446744073709551616 % n < n := Nat.mod_lt _ (by omega)
  have hh2 : x * y / 18446744073709551616 % n < 65536 := Nat.lt_of_le_of_lt (Nat.mod_le _ _) (by omega)
  have HZ : Hid (n ≤ 4294967296 → x * y / 18446744073709551616 % n = 0) := Lib.hid (fun h => by
    have h3 : x * y ≤ 4294967295 * 4294967295 := Nat.mul_le_mul (by omega) (by omega)
    have h4 : x * y / 18446744073709551616 = 0 := Nat.div_eq_of_lt (by omega)
    rw [h4, Nat.zero_mod])
  have hl : x * y % 18446744073709551616 < 18446744073709551616 := Nat.mod_lt _ (by omega)
  have hr : ((x * y / 18446744073709551616 : Nat) : Int).tmod (n : Int) = ((x * y / 18446744073709551616 % n : Nat) : Int) := by
    rw [Int.tmod_eq_emod_of_nonneg (by omega)]; omega
  have wr := wrapN (x * y / 18446744073709551616 % n) (by omega)
  have hn0 : ¬ (n : Int) = 0 := by omega
  have E : Hid ((x * y / 18446744073709551616 % n * 18446744073709551616 + x * y % 18446744073709551616) % n = x * y % n) := Lib.hid (by
    have := two_words ((x * y : Nat) : Int) n
    have h2 : (((x * y / 18446744073709551616 % n * 18446744073709551616 + x * y % 18446744073709551616) % n : Nat) : Int) = ((x * y % n : Nat) : Int) := by
      rw [Int.natCast_emod, Int.natCast_emod, ← this]
      congr 1
    omega)
  have hz : x * y % n < n := Nat.mod_lt _ (by omega)
  have wz : wrap64 ((x * y % n : Nat) : Int) = ((x * y % n : Nat) : Int) := wrap_self (by omega) (by omega)
  go_enter Try.func28, Try.ntmps28
  go_wp2_with fail
  refine (mul64_walk x y (by omega) (by omega) _).mono ?_; rintro e w1 ⟨rfl, rfl⟩
  go_wp2_with fail
  refine (hD _ _ _ _ hh hl hm hh2 HZ.out).mono ?_; rintro e w2 ⟨⟨q, rfl⟩, hb⟩
  rw [E.out]
  go_wp2_with fail
  go_ret
  exact ⟨ret_int (by have := wz; rw [Int.natCast_emod, Int.natCast_mul] at this; exact this), hb⟩
theorem divOk_small : DivOk 4294967296 := by
  intro hi lo m w h1 h2 h3 h4 h5
  obtain rfl : hi = 0 := h5 (by omega)
  refine (div64_small lo m h2 (by omega) (by omega) w).mono ?_; rintro e w' ⟨rfl, hb⟩
  rw [Nat.zero_mul, Nat.zero_add]
  exact ⟨⟨_, rfl⟩, hb⟩
end Go.Proofs.Ytepoionjcjgnjaa
