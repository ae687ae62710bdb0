import Derived.Test.YtoobpiednigcgaaStP
import Derived.Test.YtoobpiednigcgaaProg
import Derived.WalkKit
import Derived.WalkLawsBesides
import Derived.WalkSpells
import Derived.BigQuiet
import Derived.Lib.Hide
import Derived.Outline
set_option autoImplicit false
namespace Go.Proofs.Ytoobpiednigcgaa
open Go.RowKit Lk

theorem bcell {W w1 : World} (hb : Below W.heap.size W w1) : (∀ b o, b < W.heap.size → w1.cell? ⟨b, o, none⟩ = W.cell? ⟨b, o, none⟩) ∧ (∀ b o, b < W.heap.size → w1.frozen? ⟨b, o, none⟩ = W.frozen? ⟨b, o, none⟩) :=
  ⟨fun b o h => hb.cell (p := ⟨b, o, none⟩) h, fun b o h => hb.frozen (p := ⟨b, o, none⟩) h⟩

def RFB (P : Nat → Prop) (w : World) (e : Ending) (w' : World) : Prop := ∃ r, e = .returned (.float .f64 r) ∧ P r ∧ Below w.heap.size w w'
def RSB (S : St) (w : World) (e : Ending) (w' : World) : Prop := ∃ a b c d f, e = .returned (.agg #[.float .f64 a, .float .f64 b, .float .f64 c, .float .f64 d, .float .f64 f]) ∧ (IsS ⟨a, b, c, d, f⟩ S ∧ St.Lt ⟨a, b, c, d, f⟩) ∧ Below w.heap.size w w'

@[go_sem] theorem run_bits (x : Nat) (w : World) : (callFunc 22 #[.float .f64 x]).run Try.prog w = .ok (.value (.int .u64 x)) w :=
  run_callFunc_extern Try.func22 (by kernel_rfl) (by kernel_rfl) (by kernel_rfl) (e := Extern.MathFloatBits.float64bits) (by kernel_rfl) _ w
@[go_sem] theorem run_from (n : Int) (w : World) : (callFunc 50 #[.int .u64 n]).run Try.prog w = .ok (.value (.float .f64 n.toNat)) w :=
  run_callFunc_extern Try.func50 (by kernel_rfl) (by kernel_rfl) (by kernel_rfl) (e := Extern.MathFloatBits.float64frombits) (by kernel_rfl) _ w

theorem ret_bool {a b : Bool} (h : a = b) : Ending.returned (.bool a) = .returned (.bool b) := by rw [h]
theorem ret_float {a b : Nat} (h : a = b) : Ending.returned (.float .f64 a) = .returned (.float .f64 b) := by rw [h]

theorem abs_walk (x : Nat) (w : World) (hl : x < 2 ^ 64) : Calls Try.prog 47 #[.float .f64 x] w (fun e w' => e = .returned (.float .f64 (fabs x)) ∧ w = w') := by
  have H := Lib.hid (andNot_sign hl)
  go_enter Try.func47, Try.ntmps47
  go_wp2
  go_ret
  exact ⟨ret_float H.out, rfl⟩
theorem nan_walk (w : World) : Calls Try.prog 24 #[] w (fun e w' => e = .returned (.float .f64 qn) ∧ w = w') := by
  go_enter Try.func24, Try.ntmps24
  go_wp2
  go_ret
  exact ⟨rfl, rfl⟩
theorem ne_self (x : Nat) : (FloatKind.f64.format.order x x != some Ordering.eq) = decide (Nan x) := by
  rw [fmt64, Bool.eq_iff_iff, bne_iff_ne, ne_eq, o_self]; simp
theorem eq_self (x : Nat) : (FloatKind.f64.format.order x x == some Ordering.eq) = decide (¬ Nan x) := by
  rw [fmt64, Bool.eq_iff_iff, beq_iff_eq, o_self]; simp
theorem isnan_walk (x : Nat) (w : World) : Calls Try.prog 48 #[.float .f64 x] w (fun e w' => e = .returned (.bool (decide (Nan x))) ∧ w = w') := by
  go_enter Try.func48, Try.ntmps48
  go_wp2
  go_ret
  exact ⟨ret_bool (ne_self x), rfl⟩
theorem isinf_walk (x : Nat) (w : World) (hl : x < 2 ^ 64) : Calls Try.prog 49 #[.float .f64 x, .int .i64 0] w (fun e w' => e = .returned (.bool (decide (Inf x))) ∧ w = w') := by
  go_enter Try.func49, Try.ntmps49
  go_wp2_with (go_at_call 47; refine (abs_walk _ _ hl).mono ?_; rintro e w' ⟨rfl, rfl⟩)
  go_ret
  exact ⟨ret_bool cgt_max_fabs, rfl⟩
theorem fin_and (x : Nat) : (decide (¬ Nan x) && ((FloatKind.f64.format.order x 9218868437227405311 == some Ordering.lt || FloatKind.f64.format.order x 9218868437227405311 == some Ordering.eq) && (FloatKind.f64.format.order x 18442240474082181119 == some Ordering.gt || FloatKind.f64.format.order x 18442240474082181119 == some Ordering.eq))) = decide (Lk.Fin x) := by
  rw [fmt64]
  show (decide (¬ Nan x) && (cle x MAXF && cge x NMAXF)) = _
  rw [Bool.eq_iff_iff, Bool.and_eq_true, Bool.and_eq_true, cle_iff, cge_iff, decide_eq_true_eq, decide_eq_true_eq, fin_iff]
  have h1 : ¬ Nan MAXF := by decide +kernel
  have h2 : ¬ Nan NMAXF := by decide +kernel
  simp only [h1, h2, not_false_eq_true, true_and]
  constructor
  · rintro ⟨a, ⟨_, b⟩, _, c⟩; exact ⟨a, b, c⟩
  · rintro ⟨a, b, c⟩; exact ⟨a, ⟨a, b⟩, a, c⟩
theorem isfin_walk (x : Nat) (w : World) : Calls Try.prog 34 #[.float .f64 x] w (fun e w' => e = .returned (.bool (decide (Lk.Fin x))) ∧ w = w') := by
  have H := Lib.hid (fin_and x)
  have H1 := Lib.hid (eq_self x)
  by_cases h1 : (FloatKind.f64.format.order x x == some Ordering.eq) = true
  · by_cases h2 : (FloatKind.f64.format.order x 9218868437227405311 == some Ordering.lt || FloatKind.f64.format.order x 9218868437227405311 == some Ordering.eq) = true
    · go_enter Try.func34, Try.ntmps34
      go_wp2
      go_ret
      have e1 := H1.out; rw [h1] at e1
      have e2 := H.out; rw [← e1, h2] at e2
      exact ⟨ret_bool (by simpa using e2), rfl⟩
    · rw [Bool.not_eq_true] at h2
      go_enter Try.func34, Try.ntmps34
      go_wp2
      go_ret
      have e1 := H1.out; rw [h1] at e1
      have e2 := H.out; rw [← e1, h2] at e2
      exact ⟨ret_bool (by simpa using e2), rfl⟩
  · rw [Bool.not_eq_true] at h1
    go_enter Try.func34, Try.ntmps34
    go_wp2
    go_ret
    have e1 := H1.out; rw [h1] at e1
    have e2 := H.out; rw [← e1] at e2
    exact ⟨ret_bool (by simpa using e2), rfl⟩
theorem samefloat_walk (x y : Nat) (w : World) : Calls Try.prog 17 #[.float .f64 x, .float .f64 y] w (fun e w' => e = .returned (.bool (sameF x y)) ∧ w = w') := by
  have h1 := ne_self x
  have h2 := ne_self y
  have h1' := eq_self x
  have h2' := eq_self y
  have H : Hid (sameF x y = decide ((Nan x ∧ Nan y) ∨ (¬ Nan x ∧ ¬ Nan y ∧ x = y))) := rfl
  by_cases c1 : Nan x <;> by_cases c2 : Nan y <;> simp only [c1, c2, decide_true, decide_false, not_true_eq_false, not_false_eq_true] at h1 h2 h1' h2' <;> have K1 := Lib.hid c1 <;> have K2 := Lib.hid c2 <;> clear c1 c2
  all_goals
    go_enter Try.func17, Try.ntmps17
    go_wp2
    go_ret
    refine ⟨ret_bool ?_, rfl⟩
    rw [H.out]
    have k1 := K1.out
    have k2 := K2.out
    first | (simp [k1, k2]; done) | (simp only [k1, k2, and_false, false_or, not_false_eq_true, true_and]; show ((x : Int) == (y : Int)) = decide (x = y); rw [Bool.eq_iff_iff, beq_iff_eq, decide_eq_true_eq]; omega)
theorem above_walk (x : Nat) (w : World) : Calls Try.prog 51 #[.float .f64 x] w (fun e w' => e = .returned (.float .f64 (abv x)) ∧ w = w') := by
  have H : Hid (abv x = if (FloatKind.f64.format.order x 0 == some Ordering.gt) = true then x else 0) := rfl
  by_cases h : (FloatKind.f64.format.order x 0 == some Ordering.gt) = true
  · go_enter Try.func51, Try.ntmps51
    go_wp2
    go_ret
    exact ⟨ret_float (by rw [H.out, if_pos h]), rfl⟩
  · rw [Bool.not_eq_true] at h
    go_enter Try.func51, Try.ntmps51
    go_wp2
    go_ret
    exact ⟨ret_float (by rw [H.out, if_neg (by rw [h]; exact Bool.false_ne_true)]), rfl⟩
theorem notbelow_walk (x : Nat) (w : World) : Calls Try.prog 56 #[.float .f64 x] w (fun e w' => e = .returned (.float .f64 (abv x)) ∧ w = w') := by
  have H : Hid (abv x = if (FloatKind.f64.format.order x 0 == some Ordering.gt) = true then x else 0) := rfl
  by_cases h : (FloatKind.f64.format.order x 0 == some Ordering.gt) = true
  · go_enter Try.func56, Try.ntmps56
    go_wp2
    go_ret
    exact ⟨ret_float (by rw [H.out, if_pos h]), rfl⟩
  · rw [Bool.not_eq_true] at h
    go_enter Try.func56, Try.ntmps56
    go_wp2
    go_ret
    exact ⟨ret_float (by rw [H.out, if_neg (by rw [h]; exact Bool.false_ne_true)]), rfl⟩

@[reducible] def stv (a b c d f : Nat) : Value := .agg #[.float .f64 a, .float .f64 b, .float .f64 c, .float .f64 d, .float .f64 f]
end Go.Proofs.Ytoobpiednigcgaa
