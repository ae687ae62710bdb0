import Derived.Test.YtjpddkojclgkmaaStB
import Derived.WalkKit
import Derived.WalkLawsBesides
import Derived.WalkSpells
import Derived.BigQuiet
import Derived.Lib.Hide
import Derived.Outline
set_option autoImplicit false
namespace Go.Proofs.Ytjpddkojclgkmaa
open Go.RowKit Lk

theorem seen_walk (a b c d f x nz : Nat) (w : World) (hl : St.Lt ⟨a, b, c, d, f⟩) : Calls Try.prog 17 #[stv a b c d f, .float .f64 x, .float .f64 nz] w (RSB (seenF ⟨a, b, c, d, f⟩ x nz) w) := by
  have H : Hid (seenF ⟨a, b, c, d, f⟩ x nz = if cgt (fadd c nz) 0 then
    { x := fadd a (fmul (fdiv c (fadd c nz)) (fsub x a)),
      v := fadd b (fmul (fdiv d (fadd c nz)) (fsub x a)),
      pxx := if clt (fmul (fdiv c (fadd c nz)) nz) c then fmul (fdiv c (fadd c nz)) nz else c,
      pxv := fmul (fdiv d (fadd c nz)) nz,
      pvv := abv (fsub f (fmul (fdiv d (fadd c nz)) d)) } else ⟨a, b, c, d, f⟩) := rfl
  have HL := Lib.hid hl
  clear hl
  go_enter Try.func17, Try.ntmps17
  go_wp2_with ((with_reducible refine wpList_float (x := ?_) (y := ?_) (X := ?_) (Y := ?_) rfl rfl ?_ ?_ ?_ ?_ ?_ ?_); (· rfl); (rotate_left 4); (· rfl); (· rfl); (· first | assumption | exact Is.refl _); (· first | assumption | exact Is.refl _); intro v n hv hl)
  · have hn := ‹(!FloatKind.f64.format.order _ 0 == some Ordering.gt) = true›
    rw [Bool.not_eq_true'] at hn
    have hc : cgt (fadd c nz) 0 = false := (cgt_is ‹Is _ (fadd c nz)› (Is.refl 0)).symm.trans hn
    refine bodyPost_ret (v := ?_) ?_ rfl ?_
    rotate_left
    · simp [results, Try.results17, go_sem]; rfl
    · refine ⟨_, _, _, _, _, rfl, ⟨?_, HL.out⟩, by (repeat' (first | exact Below.refl _ _ | refine below_drewN ?_ _ | refine Below.setCell ?_ (by first | exact Nat.le_refl _ | (simp; done) | (simp; omega)) _ | refine Below.alloc ?_ (by first | exact Nat.le_refl _ | (simp; done) | (simp; omega)) _))⟩
      rw [H.out, if_neg (by rw [hc]; exact Bool.false_ne_true)]
      exact IsS.refl _
  · have hn := ‹(!FloatKind.f64.format.order _ 0 == some Ordering.gt) = false›
    rw [Bool.not_eq_false'] at hn
    have HT := Lib.hid (show cgt (fadd c nz) 0 = true from (cgt_is ‹Is _ (fadd c nz)› (Is.refl 0)).symm.trans hn)
    clear hn
    refine wp_region_drew TAb (by kernel_rfl) (by kernel_rfl) ?_
    repeat' (refine wpSet_step (fun K hK => ?_); go_simp; first | (refine drew_float (x := ?_) (y := ?_) (X := ?_) (Y := ?_) rfl ?_ ?_ ?_ ?_ ?_ ?_; rotate_left 4; (· rfl); (· rfl); (· rfl); (· first | assumption | exact Is.refl _); (· first | assumption | exact Is.refl _); intro v hv hl; refine hK _ ?_; clear hK K) | (refine drew_value (v := ?_) (fun n => ?_) ?_; rotate_left; (· go_simp; rfl); (refine hK _ ?_; clear hK K)))
    refine wpSet_nil ?_
    intro n1
    go_wp2_with (first | ((with_reducible refine wpList_float (x := ?_) (y := ?_) (X := ?_) (Y := ?_) rfl rfl ?_ ?_ ?_ ?_ ?_ ?_); (· rfl); (rotate_left 4); (· rfl); (· rfl); (· first | assumption | exact Is.refl _); (· first | assumption | exact Is.refl _); intro v n hv hl) | (go_at_call 33; refine (above_walk _ _).mono ?_; rintro e w' ⟨rfl, rfl⟩))
    · have hc := (clt_is ‹Is _ (fmul (fdiv c (fadd c nz)) nz)› (Is.refl c)).symm.trans (show clt _ c = true from ‹(FloatKind.f64.format.order _ c == some Ordering.lt) = true›)
      refine bodyPost_ret (v := ?_) ?_ rfl ?_
      rotate_left
      · simp [results, Try.results17, go_sem]; rfl
      · refine ⟨_, _, _, _, _, rfl, ⟨?_, ?_⟩, by (repeat' (first | exact Below.refl _ _ | refine below_drewN ?_ _ | refine Below.setCell ?_ (by first | exact Nat.le_refl _ | (simp; done) | (simp; omega)) _ | refine Below.alloc ?_ (by first | exact Nat.le_refl _ | (simp; done) | (simp; omega)) _))⟩
        · rw [H.out, if_pos HT.out, if_pos hc]
          exact ⟨‹_›, ‹_›, ‹_›, ‹_›, abv_is ‹_›⟩
        · exact ⟨‹_›, ‹_›, ‹_›, ‹_›, abv_lt ‹_›⟩
    · have hc := (clt_is ‹Is _ (fmul (fdiv c (fadd c nz)) nz)› (Is.refl c)).symm.trans (show clt _ c = false from ‹(FloatKind.f64.format.order _ c == some Ordering.lt) = false›)
      refine bodyPost_ret (v := ?_) ?_ rfl ?_
      rotate_left
      · simp [results, Try.results17, go_sem]; rfl
      · refine ⟨_, _, _, _, _, rfl, ⟨?_, ?_⟩, by (repeat' (first | exact Below.refl _ _ | refine below_drewN ?_ _ | refine Below.setCell ?_ (by first | exact Nat.le_refl _ | (simp; done) | (simp; omega)) _ | refine Below.alloc ?_ (by first | exact Nat.le_refl _ | (simp; done) | (simp; omega)) _))⟩
        · rw [H.out, if_pos HT.out, if_neg (by rw [hc]; exact Bool.false_ne_true)]
          exact ⟨‹_›, ‹_›, Is.refl _, ‹_›, abv_is ‹_›⟩
        · exact ⟨‹_›, ‹_›, HL.out.pxx, ‹_›, abv_lt ‹_›⟩
end Go.Proofs.Ytjpddkojclgkmaa
