import Derived.Test.YtdngkeefbpffcaaFlP
import Derived.Test.YtdngkeefbpffcaaRsC
import Derived.Test.YtdngkeefbpffcaaFlL
import Derived.Test.YtdngkeefbpffcaaFlI
import Derived.Test.YtdngkeefbpffcaaFlO
import Derived.Laws.BitsAllLaws
set_option autoImplicit false
set_option linter.unusedVariables false
namespace Lk
open Go Go.RowKit
section
variable {P : Program} {J : World → Prop} {Q : Exit → Act → World → Prop}
/-- wp_region_J, the first world kept -/
theorem wp_region_J1 {id : Nat} {a : Act} {w : World} {l : List Oper} (n : Nat) (J : World → Prop) (hm : P.follows .mixedOrders = true) (hn : l.length = n) (hs : Region.noSelect l.toArray = true) (hJ : J { w with drawn := w.drawn + 1 })
    (h : ∀ w1, Below w.heap.size w w1 → J w1 → Region.noSelect l.toArray = true → wpAnyJ P .any l.toArray J (fun a' w' => Q .normal a' w') n (Array.replicate n false) a w1) : (Code.region id l.toArray true).wp P Q a w := by
  refine wp_region_any hm (wpAny_of_J (J := J) (Q' := fun a' w' => Q .normal a' w') (fun _ _ h => h) _ _ _ _ hJ ?_)
  have := h { w with drawn := w.drawn + 1 } ⟨rfl, rfl, rfl, Nat.le_refl _, fun _ _ => rfl⟩ hJ hs
  subst hn
  simpa using this
end
end Lk

set_option autoImplicit false
set_option linter.unusedVariables false
namespace Pl
open Lk
/-! plots' keys, over words -/
/-- where a float stands in the order -/
def plF (x : Nat) : Nat := if Nan x then 18446744073709551615 else if x / 9223372036854775808 = 1 then 18446744073709551615 - x else x + 9223372036854775808
structure Pt where
  range : Nat
  speed : Nat
  power : Nat
  bearing : Nat
  time : Nat
def powF (x : Nat) : Nat := if Nan x then 18446744073709551615 else 18446744073709551615 - plF x
def key (p : Pt) : List Nat := [powF p.power, plF p.range, plF p.speed, plF p.bearing, plF p.time]
def cmpN (a b : Nat) : Int := if a < b then -1 else if b < a then 1 else 0
def cmpL : List Nat → List Nat → Int
  | a :: l, b :: m => if cmpN a b = 0 then cmpL l m else cmpN a b
  | _, _ => 0
end Pl
namespace Go.Proofs.Ytdngkeefbpffcaa
open Go.RowKit Lk Pl
theorem wp_forget {P : Program} {c : Code} {Q : Exit → Act → World → Prop} {a : Act} {w : World} (F : World → Prop) (h : F w) (k : ∀ w1, F w1 → Code.wp P c Q a w1) : Code.wp P c Q a w := k w h
@[go_sem] theorem run_bits (x : Nat) (w : World) : (callFunc 48 #[.float .f64 x]).run Try.prog w = .ok (.value (.int .u64 x)) w :=
  by kernel_rfl
theorem ne_self (x : Nat) : (FloatKind.f64.format.order x x != some Ordering.eq) = decide (Nan x) := by
  rw [fmt64, Bool.eq_iff_iff, bne_iff_ne, ne_eq, o_self]; simp
theorem or_top {x : Nat} (h : x < 9223372036854775808) : bits .or .u64 (x : Int) 9223372036854775808 = ((x + 9223372036854775808 : Nat) : Int) := by
  have := u64_or_nat x 9223372036854775808 (by omega) (by omega)
  rw [show ((9223372036854775808 : Nat) : Int) = 9223372036854775808 from rfl] at this
  have h2 := Nat.two_pow_add_eq_or_of_lt (i := 63) (b := x) (by omega) 1
  rw [Nat.mul_one] at h2
  rw [this, Nat.or_comm, show (9223372036854775808 : Nat) = 2 ^ 63 from rfl, ← h2, Nat.add_comm]
theorem xor_max {x : Nat} (h : x < 18446744073709551616) : bits .xor .u64 IntKind.u64.max (x : Int) = ((18446744073709551615 - x : Nat) : Int) := by
  have := u64_xor_nat 18446744073709551615 x (by omega) h
  rw [show ((18446744073709551615 : Nat) : Int) = IntKind.u64.max from rfl] at this
  rw [this]
  have e : (18446744073709551615 ^^^ x : Nat) = 18446744073709551615 - x := by
    have := BitVec.toNat_not (x := BitVec.ofNat 64 x)
    rw [← BitVec.allOnes_xor, BitVec.toNat_xor, BitVec.toNat_allOnes, BitVec.toNat_ofNat, Nat.mod_eq_of_lt h] at this
    exact this
  rw [e]
theorem place_walk (x : Nat) (hx : x < 2 ^ 64) (w : World) : Calls Try.prog 67 #[.float .f64 x] w (fun e w' => e = .returned (.int .u64 (plF x)) ∧ w = w') := by
  have q1 := ne_self x
  by_cases hn : Nan x
  · rw [decide_eq_true hn] at q1
    have H : Hid (plF x = 18446744073709551615) := Lib.hid (by unfold plF; rw [if_pos hn])
    clear hn
    go_enter Try.func67, Try.ntmps67
    go_wp2_with fail
    go_ret
    exact ⟨by rw [H.out]; rfl, rfl⟩
  · rw [decide_eq_false hn] at q1
    go_enter Try.func67, Try.ntmps67
    go_wp2_with fail
    · have hh := ‹((x : Int) / 9223372036854775808 == 1) = true›
      have hh2 : x / 9223372036854775808 = 1 := by rw [beq_iff_eq] at hh; omega
      go_ret
      refine ⟨?_, rfl⟩
      show Ending.returned (.int .u64 (bits .xor .u64 IntKind.u64.max (x : Int))) = _
      rw [xor_max hx]; unfold plF; rw [if_neg hn, if_pos hh2]
    · have hh := ‹((x : Int) / 9223372036854775808 == 1) = false›
      have hh2 : ¬ x / 9223372036854775808 = 1 := by rw [beq_eq_false_iff_ne] at hh; omega
      go_ret
      refine ⟨?_, rfl⟩
      show Ending.returned (.int .u64 (bits .or .u64 (x : Int) 9223372036854775808)) = _
      rw [or_top (by omega)]; unfold plF; rw [if_neg hn, if_neg hh2]
theorem isn_walk (a : Int) (w : World) : Calls Try.prog 75 #[.int .u64 a] w (fun e w' => e = .returned (.bool false) ∧ w = w') := by
  go_enter Try.func75, Try.ntmps75
  go_wp2_with fail
  go_ret
  exact ⟨rfl, rfl⟩
theorem cmp_walk (a b : Nat) (w : World) : Calls Try.prog 66 #[.int .u64 a, .int .u64 b] w (fun e w' => e = .returned (.int .i64 (cmpN a b)) ∧ w = w') := by
  have I1 := isn_walk a
  have I2 := isn_walk b
  go_enter Try.func66, Try.ntmps66
  go_wp2_with (first | (go_at_call 75; refine (I1 _).mono ?_; rintro e w' ⟨rfl, rfl⟩) | (go_at_call 75; refine (I2 _).mono ?_; rintro e w' ⟨rfl, rfl⟩))
  · go_ret
    exact ⟨by unfold cmpN; rw [if_pos ‹a < b›]; rfl, rfl⟩
  · go_ret
    exact ⟨by unfold cmpN; rw [if_neg ‹¬ a < b›, if_pos ‹b < a›]; rfl, rfl⟩
  · go_ret
    exact ⟨by unfold cmpN; rw [if_neg ‹¬ a < b›, if_neg ‹¬ b < a›]; rfl, rfl⟩
end Go.Proofs.Ytdngkeefbpffcaa
