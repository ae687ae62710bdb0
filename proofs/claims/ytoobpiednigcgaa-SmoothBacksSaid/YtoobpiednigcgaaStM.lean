import Derived.Test.YtoobpiednigcgaaStW
import Derived.WalkKit
import Derived.WalkLawsBesides
import Derived.WalkSpells
import Derived.BigQuiet
import Derived.Lib.Hide
import Derived.Outline
set_option autoImplicit false
namespace Go.Proofs.Ytoobpiednigcgaa
open Go.RowKit Lk


theorem not_fin_nan {x : Nat} (h : Nan x) : ¬ Lk.Fin x := by unfold Nan at h; unfold Lk.Fin; omega
theorem not_fin_inf {x : Nat} (h : Inf x) : ¬ Lk.Fin x := by unfold Inf at h; unfold Lk.Fin; omega
theorem fin_of {x : Nat} (h : ¬ Nan x) (h' : ¬ Inf x) : Lk.Fin x := by rcases fin_or x with a | a | a; exact a; exact absurd a h'; exact absurd a h
/-- one float's test, as the loop sees it -/
def okb (x : Nat) : Bool := decide (Lk.Fin x)
theorem may_walk (a b c d f : Nat) (w : World) (hl : St.Lt ⟨a, b, c, d, f⟩) : Calls Try.prog 23 #[stv a b c d f] w (fun e w' => e = .returned (.bool (mayF ⟨a, b, c, d, f⟩)) ∧ Below w.heap.size w w') := by
  have HL := Lib.hid hl
  clear hl
  go_enter Try.func23, Try.ntmps23
  have H : Hid (mayF ⟨a, b, c, d, f⟩ = (decide (Lk.Fin a) && decide (Lk.Fin b) && decide (Lk.Fin c) && decide (Lk.Fin d) && decide (Lk.Fin f) && cge c 0 && cge f 0)) := rfl
  go_wp2_with fail
  have i0 : ∀ w, (Instr.index 71 (.agg #[.float .f64 a, .float .f64 b, .float .f64 c, .float .f64 d, .float .f64 f]) (.int .i64 0)).run Try.prog w = .ok (.float .f64 a) w := fun _ => by kernel_rfl
  have i1 : ∀ w, (Instr.index 71 (.agg #[.float .f64 a, .float .f64 b, .float .f64 c, .float .f64 d, .float .f64 f]) (.int .i64 1)).run Try.prog w = .ok (.float .f64 b) w := fun _ => by kernel_rfl
  have i2 : ∀ w, (Instr.index 71 (.agg #[.float .f64 a, .float .f64 b, .float .f64 c, .float .f64 d, .float .f64 f]) (.int .i64 2)).run Try.prog w = .ok (.float .f64 c) w := fun _ => by kernel_rfl
  have i3 : ∀ w, (Instr.index 71 (.agg #[.float .f64 a, .float .f64 b, .float .f64 c, .float .f64 d, .float .f64 f]) (.int .i64 3)).run Try.prog w = .ok (.float .f64 d) w := fun _ => by kernel_rfl
  have i4 : ∀ w, (Instr.index 71 (.agg #[.float .f64 a, .float .f64 b, .float .f64 c, .float .f64 d, .float .f64 f]) (.int .i64 4)).run Try.prog w = .ok (.float .f64 f) w := fun _ => by kernel_rfl
  refine wp_loop_rounds 6 ?_
  repeat any_goals (rw [rounds_succ]; go_wp2_with (first | (go_at_call 48; refine (isnan_walk _ _).mono ?_; rintro e w' ⟨rfl, rfl⟩) | (go_at_call 49; refine (isinf_walk _ _ (by first | exact HL.out.x | exact HL.out.v | exact HL.out.pxx | exact HL.out.pxv | exact HL.out.pvv)).mono ?_; rintro e w' ⟨rfl, rfl⟩)))
  all_goals
    go_ret
    refine ⟨ret_bool ?_, by (repeat' (first | exact Below.refl _ _ | refine below_drewN ?_ _ | refine Below.setCell ?_ (by first | exact Nat.le_refl _ | (simp; done) | (simp; omega)) _ | refine Below.alloc ?_ (by first | exact Nat.le_refl _ | (simp; done) | (simp; omega)) _))⟩
    rw [H.out]
    first | (have hn := ‹Nan _›; simp [not_fin_nan hn]; done) | (have hn := ‹Inf _›; simp [not_fin_inf hn]; done) | (have fa := fin_of ‹¬ Nan a› ‹¬ Inf a›; have fb := fin_of ‹¬ Nan b› ‹¬ Inf b›; have fc := fin_of ‹¬ Nan c› ‹¬ Inf c›; have fd := fin_of ‹¬ Nan d› ‹¬ Inf d›; have ff := fin_of ‹¬ Nan f› ‹¬ Inf f›; clear i0 i1 i2 i3 i4; simp_all [cge, fmt64])
theorem rmay_walk (a b c d f : Nat) (w : World) : Calls Try.prog 33 #[stv a b c d f] w (fun e w' => e = .returned (.bool (mayF ⟨a, b, c, d, f⟩)) ∧ Below w.heap.size w w') := by
  have H : Hid (mayF ⟨a, b, c, d, f⟩ = (decide (Lk.Fin a) && decide (Lk.Fin b) && decide (Lk.Fin c) && decide (Lk.Fin d) && decide (Lk.Fin f) && cge c 0 && cge f 0)) := rfl
  go_enter Try.func33, Try.ntmps33
  go_wp2_with (first | (go_at_call 34; refine (isfin_walk _ _).mono ?_; rintro e w' ⟨rfl, rfl⟩))
  all_goals
    go_ret
    refine ⟨ret_bool ?_, by (repeat' (first | exact Below.refl _ _ | refine below_drewN ?_ _ | refine Below.setCell ?_ (by first | exact Nat.le_refl _ | (simp; done) | (simp; omega)) _ | refine Below.alloc ?_ (by first | exact Nat.le_refl _ | (simp; done) | (simp; omega)) _))⟩
    rw [H.out]
    simp_all [cge, fmt64]
end Go.Proofs.Ytoobpiednigcgaa
