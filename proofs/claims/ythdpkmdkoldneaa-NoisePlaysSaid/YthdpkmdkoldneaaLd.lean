import Derived.Test.YthdpkmdkoldneaaFlY
import Derived.Test.YthdpkmdkoldneaaFlW
import Derived.Test.YthdpkmdkoldneaaProg
import Derived.WalkKit
import Derived.WalkLawsBesides
import Derived.WalkSpells
import Derived.BigQuiet
import Derived.Lib.Hide
import Derived.Outline
set_option autoImplicit false
set_option linter.unusedVariables false
namespace Go.Proofs.Ythdpkmdkoldneaa
open Go.RowKit Lk

@[go_sem] theorem run_bits (x : Nat) (w : World) : (callFunc 37 #[.float .f64 x]).run Try.prog w = .ok (.value (.int .u64 x)) w :=
  run_callFunc_extern Try.func37 (by kernel_rfl) (by kernel_rfl) (by kernel_rfl) (e := Extern.MathFloatBits.float64bits) (by kernel_rfl) _ w
@[go_sem] theorem run_from (n : Int) (w : World) : (callFunc 36 #[.int .u64 n]).run Try.prog w = .ok (.value (.float .f64 n.toNat)) w :=
  run_callFunc_extern Try.func36 (by kernel_rfl) (by kernel_rfl) (by kernel_rfl) (e := Extern.MathFloatBits.float64frombits) (by kernel_rfl) _ w
theorem ret_bool {a b : Bool} (h : a = b) : Ending.returned (.bool a) = .returned (.bool b) := by rw [h]
theorem ret_float {a b : Nat} (h : a = b) : Ending.returned (.float .f64 a) = .returned (.float .f64 b) := by rw [h]
theorem abs_walk (x : Nat) (w : World) (hl : x < 2 ^ 64) : Calls Try.prog 21 #[.float .f64 x] w (fun e w' => e = .returned (.float .f64 (fabs x)) ∧ w = w') := by
  have H := Lib.hid (andNot_sign hl)
  go_enter Try.func21, Try.ntmps21
  go_wp2
  go_ret
  exact ⟨ret_float H.out, rfl⟩
theorem ne_self (x : Nat) : (FloatKind.f64.format.order x x != some Ordering.eq) = decide (Nan x) := by
  rw [fmt64, Bool.eq_iff_iff, bne_iff_ne, ne_eq, o_self]; simp
theorem isnan_walk (x : Nat) (w : World) : Calls Try.prog 40 #[.float .f64 x] w (fun e w' => e = .returned (.bool (decide (Nan x))) ∧ w = w') := by
  go_enter Try.func40, Try.ntmps40
  go_wp2
  go_ret
  exact ⟨ret_bool (ne_self x), rfl⟩
theorem isinf_walk (x : Nat) (w : World) (hl : x < 2 ^ 64) : Calls Try.prog 19 #[.float .f64 x, .int .i64 0] w (fun e w' => e = .returned (.bool (decide (Inf x))) ∧ w = w') := by
  go_enter Try.func19, Try.ntmps19
  go_wp2_with (go_at_call 21; refine (abs_walk _ _ hl).mono ?_; rintro e w' ⟨rfl, rfl⟩)
  go_ret
  exact ⟨ret_bool cgt_max_fabs, rfl⟩

/-- a word of a number that is not nought, above it, and no denormal one -/
def Norm (x : Nat) : Prop := 2 ^ 52 ≤ x ∧ x < INF
theorem Norm.fin {x : Nat} (h : Norm x) : Lk.Fin x := by unfold Norm INF at h; unfold Lk.Fin rg SGN INF; omega
theorem Norm.fabs {x : Nat} (h : Norm x) : fabs x = x := by unfold Norm INF at h; unfold Lk.fabs rg SGN; omega
theorem Norm.sgn {x : Nat} (h : Norm x) : sgn x = false := by unfold Norm INF at h; unfold Lk.sgn SGN; rw [Nat.div_eq_of_lt (by omega)]; rfl
theorem Norm.rg {x : Nat} (h : Norm x) : rg x = x := by unfold Norm INF at h; unfold Lk.rg SGN; omega
theorem Norm.lt {x : Nat} (h : Norm x) : x < 2 ^ 64 := by unfold Norm INF at h; omega
theorem ev_nat_lt {x y : Nat} (hx : Norm x) (hy : Norm y) : ev x < ev y ↔ x < y := by
  unfold ev; rw [hx.sgn, hy.sgn, hx.rg, hy.rg]; exact mg_lt_iff
theorem and_expo {e : Nat} (h : e < 2048) : bits BinOp.and IntKind.i64 (e : Int) 2047 = (e : Int) := by
  have h127 : (BitVec.ofInt 64 2047).toNat = 2 ^ 11 - 1 := by decide
  have key : (BitVec.ofInt 64 (e : Int) &&& BitVec.ofInt 64 2047).toNat = ((e : Int) % ((2 ^ 64 : Nat) : Int)).toNat % 2 ^ 11 := by
    rw [BitVec.toNat_and, BitVec.toNat_ofInt, h127, Nat.and_two_pow_sub_one_eq_mod]
  show IntKind.i64.wrap ((BitVec.ofInt 64 (e : Int) &&& BitVec.ofInt 64 2047).toNat : Nat) = e
  rw [key, IntKind.wrap_i64]
  omega
theorem andNot_expo {x : Nat} (h : x < 2 ^ 63) : bits BinOp.andNot IntKind.u64 (x : Int) 9218868437227405312 = ((x % 2 ^ 52 : Nat) : Int) := by
  have e := u64_andNot_nat x 9218868437227405312 (by omega) (by decide)
  rw [show ((9218868437227405312 : Nat) : Int) = 9218868437227405312 from rfl] at e
  rw [e]
  congr 1
  have h1 : x &&& (18446744073709551615 - 9218868437227405312) ≤ x := Nat.and_le_left
  have h2 : (x &&& (18446744073709551615 - 9218868437227405312)) % 2 ^ 63 = x % 2 ^ 52 := by
    rw [Nat.and_mod_two_pow, show (18446744073709551615 - 9218868437227405312) % 2 ^ 63 = 2 ^ 52 - 1 by decide, Nat.and_two_pow_sub_one_eq_mod]
    omega
  omega
theorem or_expo {a m : Nat} (h : a < 2 ^ 52) (hm : m < 2 ^ 12) : bits BinOp.or IntKind.u64 (a : Int) ((m : Int) * 4503599627370496) = ((a + m * 2 ^ 52 : Nat) : Int) := by
  have e := u64_or_nat a (m * 2 ^ 52) (by omega) (by omega)
  rw [show ((m * 2 ^ 52 : Nat) : Int) = (m : Int) * 4503599627370496 by omega] at e
  rw [e]
  congr 1
  have := Nat.shiftLeft_add_eq_or_of_lt h m
  rw [Nat.shiftLeft_eq] at this
  rw [Nat.or_comm, ← this]
  omega
theorem mul_one_is {y v : Nat} (hn : Norm y) (hv : Is v (fop BinOp.mul 4607182418800017408 y)) : v = y := by
  have f1 : Lk.Fin 4607182418800017408 := by decide +kernel
  obtain ⟨m1, m2, m3, m4⟩ := fmul_fin f1 hn.fin
  have e1 : ev 4607182418800017408 = 1 := by kernel_rfl
  have hv' := hv.eq m2
  rw [hv']
  rw [e1, Rat.one_mul, rc_ev _ hn.fin.not_nan] at m3
  refine word_inj m1 hn.lt m3 ?_
  show sgn (fmul 4607182418800017408 y) = _
  rw [m4, hn.sgn]; decide
theorem normalize_walk (x : Nat) (w : World) (h : Norm x) : Calls Try.prog 42 #[.float .f64 x] w (fun e w' => e = .returned (.tuple #[.float .f64 x, .int .i64 0]) ∧ w = w') := by
  have H : (FloatKind.f64.format.order x 4503599627370496 == some Ordering.lt) = false := by
    show clt x 4503599627370496 = false
    rw [← Bool.not_eq_true, clt_iff]
    rintro ⟨_, _, h1⟩
    have h2 := (ev_nat_lt h (show Norm 4503599627370496 by unfold Norm INF; omega)).1 h1
    unfold Norm at h
    omega
  have HA := Lib.hid h.fabs
  go_enter Try.func42, Try.ntmps42
  go_wp2_with (go_at_call 21; refine (abs_walk _ _ h.lt).mono ?_; rw [HA.out]; rintro e w' ⟨rfl, rfl⟩)
  refine bodyPost_ret (results_tmp2 rfl _ _ _) rfl ?_
  exact ⟨rfl, rfl⟩
theorem ldexp_walk (x : Nat) (k : Int) (w : World) (h : Norm x) (y : Nat) (hy : (y : Int) = x + k * 2 ^ 52) (hn : Norm y) : Calls Try.prog 39 #[.float .f64 x, .int .i64 k] w (fun e w' => e = .returned (.float .f64 y) ∧ Below w.heap.size w w') := by
  have h0 : (FloatKind.f64.format.order x 0 == some Ordering.eq) = false := by
    show ceq x 0 = false
    rw [← Bool.not_eq_true, ceq_iff]
    rintro ⟨_, _, h1⟩
    have h2 : mg 0 < mg x := mg_lt (by unfold Norm at h; omega)
    unfold ev at h1
    rw [h.sgn, h.rg, show sgn 0 = false by decide, show rg 0 = 0 by decide] at h1
    simp only [sv] at h1
    grind
  have h1 : ¬ Inf x := by have := h.fin; unfold Lk.Fin at this; unfold Inf; omega
  have h2 : ¬ Nan x := h.fin.not_nan
  obtain ⟨z, hz, hz1, hz2, hz3⟩ : ∃ z : Int, z = k + ((x : Int) / 2 ^ 52 - 1023) ∧ -1022 ≤ z ∧ z ≤ 1023 ∧ (y : Int) = x % 2 ^ 52 + (z + 1023) * 2 ^ 52 := by
    unfold Norm INF at h hn
    refine ⟨_, rfl, ?_, ?_, ?_⟩ <;> omega
  have hE : bits BinOp.and IntKind.i64 (wrap64 ((x : Int) / 4503599627370496)) 2047 = (x : Int) / 2 ^ 52 := by
    have e1 : wrap64 ((x : Int) / 4503599627370496) = ((x / 4503599627370496 : Nat) : Int) := by unfold wrap64; unfold Norm INF at h; omega
    rw [e1, and_expo (by unfold Norm INF at h; omega)]
    omega
  have hB : (bits BinOp.or IntKind.u64 (bits BinOp.andNot IntKind.u64 (x : Int) 9218868437227405312) ((z + 1023) * 4503599627370496)).toNat = y := by
    obtain ⟨m, hm⟩ : ∃ m : Nat, z + 1023 = m := ⟨(z + 1023).toNat, by omega⟩
    have hx : x < 2 ^ 63 := by unfold Norm INF at h; omega
    rw [hm, andNot_expo hx, or_expo (by omega) (by omega)]
    omega
  have hS : wrap64 (wrap64 k + wrap64 (bits BinOp.and IntKind.i64 (wrap64 ((x : Int) / 4503599627370496)) 2047 - 1023)) = z := by
    rw [hE]
    unfold Norm INF at h hn
    unfold wrap64
    omega
  have q1 : ¬ z < -1075 := by omega
  have q2 : ¬ 1023 < z := by omega
  have q3 : ¬ z < -1022 := by omega
  have HM : ∀ v, Is v (fop BinOp.mul 4607182418800017408 y) → v = y := fun v hv => mul_one_is hn hv
  clear hE hz
  go_enter Try.func39, Try.ntmps39
  go_wp2_with (first | (go_at_call 19; refine (isinf_walk _ _ h.lt).mono ?_; rintro e w' ⟨rfl, rfl⟩) | (go_at_call 40; refine (isnan_walk _ _).mono ?_; rintro e w' ⟨rfl, rfl⟩) | (go_at_call 42; refine (normalize_walk _ _ h).mono ?_; rintro e w' ⟨rfl, rfl⟩) | (((with_reducible refine wpList_float (x := ?_) (y := ?_) (X := ?_) (Y := ?_) rfl rfl ?_ ?_ ?_ ?_ ?_ ?_); (· rfl); (rotate_left 4); (· rfl); (· rfl); (· first | assumption | exact Is.refl _); (· first | assumption | exact Is.refl _); intro v n hv hl); obtain rfl := HM _ hv))
  go_ret
  exact ⟨rfl, below_drewN (Below.refl _ _) _⟩
theorem Ldexp_walk (x : Nat) (k : Int) (w : World) (h : Norm x) (y : Nat) (hy : (y : Int) = x + k * 2 ^ 52) (hn : Norm y) : Calls Try.prog 22 #[.float .f64 x, .int .i64 k] w (fun e w' => e = .returned (.float .f64 y) ∧ Below w.heap.size w w') := by
  go_enter Try.func22, Try.ntmps22
  go_wp2_with (go_at_call 39; refine (ldexp_walk x k _ h y hy hn).mono ?_; rintro e w' ⟨rfl, hb⟩)
  go_ret
  exact ⟨rfl, hb⟩
/-- at nought -/
theorem ldexp_zero (k : Int) (w : World) : Calls Try.prog 39 #[.float .f64 0, .int .i64 k] w (fun e w' => e = .returned (.float .f64 0) ∧ w = w') := by
  have h0 : (FloatKind.f64.format.order 0 0 == some Ordering.eq) = true := by decide +kernel
  go_enter Try.func39, Try.ntmps39
  go_wp2
  go_ret
  exact ⟨rfl, rfl⟩
theorem Ldexp_zero (k : Int) (w : World) : Calls Try.prog 22 #[.float .f64 0, .int .i64 k] w (fun e w' => e = .returned (.float .f64 0) ∧ w = w') := by
  go_enter Try.func22, Try.ntmps22
  go_wp2_with (go_at_call 39; refine (ldexp_zero k _).mono ?_; rintro e w' ⟨rfl, rfl⟩)
  go_ret
  exact ⟨rfl, rfl⟩
end Go.Proofs.Ythdpkmdkoldneaa
