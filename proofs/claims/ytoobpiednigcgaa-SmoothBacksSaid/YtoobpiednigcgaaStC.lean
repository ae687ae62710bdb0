import Derived.Test.YtoobpiednigcgaaStW
import Derived.WalkKit
import Derived.WalkLawsBesides
import Derived.WalkSpells
import Derived.BigQuiet
import Derived.Lib.Hide
import Derived.Outline
set_option autoImplicit false
namespace Go.Proofs.Ytoobpiednigcgaa
open Go.RowKit Lk

theorem rahead_walk (a b c d f t q : Nat) (w : World) (hl : St.Lt ⟨a, b, c, d, f⟩) : Calls Try.prog 53 #[stv a b c d f, .float .f64 t, .float .f64 q] w (RSB (aheadF ⟨a, b, c, d, f⟩ t q) w) := by
  have H : Hid (aheadF ⟨a, b, c, d, f⟩ t q = if cgt t 0 then
    { x := fadd a (fmul b t), v := b,
      pxx := abv (fadd (fadd (fadd (fadd c (fmul d t)) (fmul d t)) (fmul (fmul f t) t)) (fdiv (fmul (fmul (fmul q t) t) t) C3)),
      pxv := fadd (fadd d (fmul f t)) (fdiv (fmul (fmul q t) t) C2),
      pvv := fadd f (fmul q t) } else ⟨a, b, c, d, f⟩) := rfl
  have HL := Lib.hid hl
  clear hl
  by_cases ht : (FloatKind.f64.format.order t 0 == some Ordering.gt) = true
  · have HT := Lib.hid (show cgt t 0 = true from ht)
    go_enter Try.func53, Try.ntmps53
    go_wp2_with (first | ((with_reducible refine wpList_float (x := ?_) (y := ?_) (X := ?_) (Y := ?_) rfl rfl ?_ ?_ ?_ ?_ ?_ ?_); (· rfl); (rotate_left 4); (· rfl); (· rfl); (· first | assumption | exact Is.refl _); (· first | assumption | exact Is.refl _); intro v n hv hl) | (go_at_call 56; refine (notbelow_walk _ _).mono ?_; rintro e w' ⟨rfl, rfl⟩))
    refine bodyPost_ret (v := ?_) ?_ rfl ?_
    rotate_left
    · simp [results, Try.results53, go_sem]; rfl
    · refine ⟨_, _, _, _, _, rfl, ⟨?_, ?_⟩, ?_⟩
      · rw [H.out, if_pos HT.out]
        exact ⟨‹_›, Is.refl _, abv_is ‹_›, ‹_›, ‹_›⟩
      · exact ⟨‹_›, HL.out.v, abv_lt ‹_›, ‹_›, ‹_›⟩
      · (repeat' (first | exact Below.refl _ _ | refine below_drewN ?_ _ | refine Below.setCell ?_ (by first | exact Nat.le_refl _ | (simp; done) | (simp; omega)) _ | refine Below.alloc ?_ (by first | exact Nat.le_refl _ | (simp; done) | (simp; omega)) _))
  · rw [Bool.not_eq_true] at ht
    have HT := Lib.hid (show cgt t 0 = false from ht)
    go_enter Try.func53, Try.ntmps53
    go_wp2_with ((with_reducible refine wpList_float (x := ?_) (y := ?_) (X := ?_) (Y := ?_) rfl rfl ?_ ?_ ?_ ?_ ?_ ?_); (· rfl); (rotate_left 4); (· rfl); (· rfl); (· first | assumption | exact Is.refl _); (· first | assumption | exact Is.refl _); intro v n hv hl)
    refine bodyPost_ret (v := ?_) ?_ rfl ?_
    rotate_left
    · simp [results, Try.results53, go_sem]; rfl
    · refine ⟨_, _, _, _, _, rfl, ⟨?_, HL.out⟩, ?_⟩
      · rw [H.out, if_neg (by rw [HT.out]; exact Bool.false_ne_true)]
        exact IsS.refl _
      · (repeat' (first | exact Below.refl _ _ | refine below_drewN ?_ _ | refine Below.setCell ?_ (by first | exact Nat.le_refl _ | (simp; done) | (simp; omega)) _ | refine Below.alloc ?_ (by first | exact Nat.le_refl _ | (simp; done) | (simp; omega)) _))

theorem start_walk (x n q : Nat) (w : World) (hx : x < 2 ^ 64) (hn : n < 2 ^ 64) (hq : q < 2 ^ 64) : Calls Try.prog 26 #[.float .f64 x, .float .f64 n, .float .f64 q] w (RSB ⟨x, 0, n, 0, q⟩ w) := by
  go_enter Try.func26, Try.ntmps26
  go_wp2
  refine bodyPost_ret (v := ?_) ?_ rfl ?_
  rotate_left
  · simp [results, Try.results26, go_sem]; rfl
  · exact ⟨_, _, _, _, _, rfl, ⟨IsS.refl _, ⟨hx, Nat.two_pow_pos 64, hn, Nat.two_pow_pos 64, hq⟩⟩, by (repeat' (first | exact Below.refl _ _ | refine below_drewN ?_ _ | refine Below.setCell ?_ (by first | exact Nat.le_refl _ | (simp; done) | (simp; omega)) _ | refine Below.alloc ?_ (by first | exact Nat.le_refl _ | (simp; done) | (simp; omega)) _))⟩
set_option maxHeartbeats 2000000 in
theorem same_walk (a b c d f a' b' c' d' f' : Nat) (w : World) : Calls Try.prog 36 #[stv a b c d f, stv a' b' c' d' f'] w (fun e w' => e = .returned (.bool (sameS ⟨a, b, c, d, f⟩ ⟨a', b', c', d', f'⟩)) ∧ Below w.heap.size w w') := by
  have H : Hid (sameS ⟨a, b, c, d, f⟩ ⟨a', b', c', d', f'⟩ = (sameF a a' && sameF b b' && (sameF c c' && sameF d d' && sameF f f'))) := rfl
  cases h1 : sameF a a' <;> cases h2 : sameF b b' <;> cases h3 : sameF c c' <;> cases h4 : sameF d d' <;> rw [h1, h2, h3, h4] at H
  all_goals
    go_enter Try.func36, Try.ntmps36
    go_wp2_with (first | (go_at_call 17; refine (samefloat_walk _ _ _).mono ?_; rintro e w' ⟨rfl, rfl⟩))
    go_ret
    exact ⟨ret_bool (by rw [H.out]; rfl), by (repeat' (first | exact Below.refl _ _ | refine below_drewN ?_ _ | refine Below.setCell ?_ (by first | exact Nat.le_refl _ | (simp; done) | (simp; omega)) _ | refine Below.alloc ?_ (by first | exact Nat.le_refl _ | (simp; done) | (simp; omega)) _))⟩
end Go.Proofs.Ytoobpiednigcgaa
