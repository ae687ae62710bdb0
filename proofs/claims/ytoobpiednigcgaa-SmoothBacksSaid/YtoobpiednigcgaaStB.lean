import Derived.Test.YtoobpiednigcgaaStW
import Derived.WalkKit
import Derived.WalkLawsBesides
import Derived.WalkSpells
import Derived.BigQuiet
import Derived.Lib.Hide
import Derived.Outline
set_option autoImplicit false
namespace Go.Proofs.Ytoobpiednigcgaa
open Go.RowKit Lk

def TAb : FuncId → Array Value → Value → Prop := fun _ args u => ∃ x, args = #[.float .f64 x] ∧ u = .float .f64 (abv x)

theorem ahead_walk (a b c d f t q : Nat) (w : World) (hl : St.Lt ⟨a, b, c, d, f⟩) : Calls Try.prog 27 #[stv a b c d f, .float .f64 t, .float .f64 q] w (RSB (aheadF ⟨a, b, c, d, f⟩ t q) w) := by
  have H : Hid (aheadF ⟨a, b, c, d, f⟩ t q = if cgt t 0 then
    { x := fadd a (fmul b t), v := b,
      pxx := abv (fadd (fadd (fadd (fadd c (fmul d t)) (fmul d t)) (fmul (fmul f t) t)) (fdiv (fmul (fmul (fmul q t) t) t) C3)),
      pxv := fadd (fadd d (fmul f t)) (fdiv (fmul (fmul q t) t) C2),
      pvv := fadd f (fmul q t) } else ⟨a, b, c, d, f⟩) := rfl
  have HL := Lib.hid hl
  clear hl
  by_cases ht : (FloatKind.f64.format.order t 0 == some Ordering.gt) = true
  · have HT := Lib.hid (show cgt t 0 = true from ht)
    go_enter Try.func27, Try.ntmps27
    go_wp2_with ((with_reducible refine wpList_float (x := ?_) (y := ?_) (X := ?_) (Y := ?_) rfl rfl ?_ ?_ ?_ ?_ ?_ ?_); (· rfl); (rotate_left 4); (· rfl); (· rfl); (· first | assumption | exact Is.refl _); (· first | assumption | exact Is.refl _); intro v n hv hl)
    refine wp_region_drew TAb (by kernel_rfl) (by kernel_rfl) ?_
    repeat' (refine wpSet_step (fun K hK => ?_); go_simp; first | (refine drew_float (x := ?_) (y := ?_) (X := ?_) (Y := ?_) rfl ?_ ?_ ?_ ?_ ?_ ?_; rotate_left 4; (· rfl); (· rfl); (· rfl); (· first | assumption | exact Is.refl _); (· first | assumption | exact Is.refl _); intro v hv hl; refine hK _ ?_; clear hK K) | (refine drew_value (v := ?_) (fun n => ?_) ?_; rotate_left; (· go_simp; rfl); (refine hK _ ?_; clear hK K)))
    refine wpSet_nil ?_
    intro n1
    go_wp2_with ((with_reducible refine wpList_float (x := ?_) (y := ?_) (X := ?_) (Y := ?_) rfl rfl ?_ ?_ ?_ ?_ ?_ ?_); (· rfl); (rotate_left 4); (· rfl); (· rfl); (· first | assumption | exact Is.refl _); (· first | assumption | exact Is.refl _); intro v n hv hl)
    refine wp_region_drew_tail 37 TAb (by kernel_rfl) (by kernel_rfl) ?_
    simp only [List.take_succ_cons, List.take_zero, List.drop_succ_cons, List.drop_zero]
    repeat' (refine wpSet_step (fun K hK => ?_); go_simp; first | (refine drew_float (x := ?_) (y := ?_) (X := ?_) (Y := ?_) rfl ?_ ?_ ?_ ?_ ?_ ?_; rotate_left 4; (· rfl); (· rfl); (· rfl); (· first | assumption | exact Is.refl _); (· first | assumption | exact Is.refl _); intro v hv hl; refine hK _ ?_; clear hK K) | (refine drew_value (v := ?_) (fun n => ?_) ?_; rotate_left; (· go_simp; rfl); (refine hK _ ?_; clear hK K)) | (refine drew_call (f := 51) (args := ?_) (fun n => ?_) (fun n => ?_) ?_; rotate_left; (· go_simp; rfl); (· exact (above_walk _ _).mono (by rintro e w' ⟨rfl, rfl⟩; exact ⟨_, rfl, ⟨_, rfl, rfl⟩, n, rfl⟩)); (rintro u ⟨x, hx, rfl⟩; cases hx; refine hK _ ?_; clear hK K)))
    refine wpSet_nil ?_
    intro n2
    go_wp2
    refine bodyPost_ret (v := ?_) ?_ rfl ?_
    rotate_left
    · simp [results, Try.results27, go_sem]; rfl
    · refine ⟨_, _, _, _, _, rfl, ⟨?_, ?_⟩, ?_⟩
      · rw [H.out, if_pos HT.out]
        exact ⟨‹_›, Is.refl _, abv_is ‹_›, ‹_›, ‹_›⟩
      · exact ⟨‹_›, HL.out.v, abv_lt ‹_›, ‹_›, ‹_›⟩
      · (repeat' (first | exact Below.refl _ _ | refine below_drewN ?_ _ | refine Below.setCell ?_ (by first | exact Nat.le_refl _ | (simp; done) | (simp; omega)) _ | refine Below.alloc ?_ (by first | exact Nat.le_refl _ | (simp; done) | (simp; omega)) _))
  · rw [Bool.not_eq_true] at ht
    have HT := Lib.hid (show cgt t 0 = false from ht)
    go_enter Try.func27, Try.ntmps27
    go_wp2_with ((with_reducible refine wpList_float (x := ?_) (y := ?_) (X := ?_) (Y := ?_) rfl rfl ?_ ?_ ?_ ?_ ?_ ?_); (· rfl); (rotate_left 4); (· rfl); (· rfl); (· first | assumption | exact Is.refl _); (· first | assumption | exact Is.refl _); intro v n hv hl)
    refine bodyPost_ret (v := ?_) ?_ rfl ?_
    rotate_left
    · simp [results, Try.results27, go_sem]; rfl
    · refine ⟨_, _, _, _, _, rfl, ⟨?_, HL.out⟩, ?_⟩
      · rw [H.out, if_neg (by rw [HT.out]; exact Bool.false_ne_true)]
        exact IsS.refl _
      · (repeat' (first | exact Below.refl _ _ | refine below_drewN ?_ _ | refine Below.setCell ?_ (by first | exact Nat.le_refl _ | (simp; done) | (simp; omega)) _ | refine Below.alloc ?_ (by first | exact Nat.le_refl _ | (simp; done) | (simp; omega)) _))

end Go.Proofs.Ytoobpiednigcgaa
