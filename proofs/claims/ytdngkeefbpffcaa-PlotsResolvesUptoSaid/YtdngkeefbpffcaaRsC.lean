import Derived.Test.YtdngkeefbpffcaaFlX
import Derived.Test.YtdngkeefbpffcaaFlW
import Derived.Test.YtdngkeefbpffcaaProg
import Derived.WalkKit
import Derived.WalkLawsBesides
import Derived.WalkSpells
import Derived.BigQuiet
import Derived.Lib.Hide
import Derived.Outline
import Derived.LoopTactic
set_option autoImplicit false
set_option linter.unusedVariables false
namespace Go.Proofs.Ytdngkeefbpffcaa
open Go.RowKit Lk
/-! the beats' checks -/
def okf (x : Nat) : Bool := cgt x 0 && decide (Lk.Fin x)
def chk3 (c v r : Nat) : Bool := okf c && okf v && okf r
def chkN (e n : Int) : Int := if e < 1 ∨ 16384 < e ∨ n < 1 ∨ 256 < n then 80 else if 262144 < e * n then 3 else 0
def chk (c v r : Nat) (e n : Int) : Int := if chk3 c v r then chkN e n else 80
theorem ret_bool {a b : Bool} (h : a = b) : Ending.returned (.bool a) = .returned (.bool b) := by rw [h]
theorem rc_int {a b : Int} (h : a = b) : Ending.returned (.int .i64 a) = .returned (.int .i64 b) := by rw [h]
theorem ret_float {a b : Nat} (h : a = b) : Ending.returned (.float .f64 a) = .returned (.float .f64 b) := by rw [h]
theorem fine_is {x v : Nat} (h : Is v (fop BinOp.sub x x)) : (FloatKind.f64.format.order v 0 == some Ordering.eq) = decide (Lk.Fin x) := by
  rw [show (FloatKind.f64.format.order v 0 == some Ordering.eq) = ceq v 0 from rfl, ceq_is h (Is.refl 0), Bool.eq_iff_iff, decide_eq_true_eq]
  show ceq (fsub x x) 0 = true ↔ _
  constructor
  · intro h1
    obtain ⟨h2, _⟩ := ceq_iff.1 h1
    rcases fin_or x with hf | hi | hn
    · exact hf
    · exact absurd (show Nan (fsub x x) by rw [fsub_eq]; unfold fadd; rw [add_inf_inf hi (inf_fneg.2 hi), sgn_fneg]; cases sgn x <;> exact nan_qn) h2
    · exact absurd (nan_fsub (.inl hn)) h2
  · intro hf
    obtain ⟨_, g2, g3, _⟩ := fsub_fin hf hf
    refine ceq_iff.2 ⟨g2, by decide +kernel, ?_⟩
    rw [g3, show ev x - ev x = 0 by grind, rc_zero]; kernel_rfl
theorem fine_walk (x : Nat) (w : World) : Calls Try.prog 51 #[.float .f64 x] w (fun e w' => e = .returned (.bool (decide (Lk.Fin x))) ∧ Below w.heap.size w w') := by
  go_enter Try.func51, Try.ntmps51
  go_wp2_with (((with_reducible refine wpList_float (x := ?_) (y := ?_) (X := ?_) (Y := ?_) rfl rfl ?_ ?_ ?_ ?_ ?_ ?_); (· rfl); (rotate_left 4); (· rfl); (· rfl); (· first | assumption | exact Is.refl _); (· first | assumption | exact Is.refl _); intro v n hv hl))
  go_ret
  exact ⟨ret_bool (fine_is hv), below_drewN (Below.refl _ _) _⟩

theorem okf_ff {x : Nat} (h : okf x = true) : (FloatKind.f64.format.order x 0 == some Ordering.gt) = true ∧ Lk.Fin x := by
  unfold okf at h; rw [Bool.and_eq_true, decide_eq_true_eq] at h; exact h
def nth3 (c v r : Nat) : Nat → Nat
  | 0 => c
  | 1 => v
  | _ => r
theorem chk_bad {c v r : Nat} {e n : Int} {k : Nat} (hk : k < 3) (h : okf (nth3 c v r k) = false) : chk c v r e n = 80 := by
  have : chk3 c v r = false := by
    unfold chk3
    match k, hk, h with
    | 0, _, h => simp only [nth3] at h; rw [h]; rfl
    | 1, _, h => simp only [nth3] at h; rw [h]; simp
    | 2, _, h => simp only [nth3] at h; rw [h]; simp
  unfold chk; rw [this]; rfl
theorem chk_good {c v r : Nat} {e n : Int} (h : ∀ j, j < 3 → okf (nth3 c v r j) = true) : chk c v r e n = chkN e n := by
  have h0 := h 0 (by omega)
  have h1 := h 1 (by omega)
  have h2 := h 2 (by omega)
  simp only [nth3] at h0 h1 h2
  unfold chk chk3; rw [h0, h1, h2]; rfl
abbrev btv (c v r : Nat) (e n : Int) : Value := .agg #[.float .f64 c, .float .f64 v, .float .f64 r, .int .i64 e, .int .i64 n]
set_option maxHeartbeats 2000000 in
theorem check_walk (c v r : Nat) (e n : Int) (w : World) (h1 : -9223372036854775808 ≤ e) (h2 : e ≤ 9223372036854775807) (h3 : -9223372036854775808 ≤ n) (h4 : n ≤ 9223372036854775807) :
    Calls Try.prog 28 #[btv c v r e n] w (fun e' w' => e' = .returned (.int .i64 (chk c v r e n)) ∧ Below w.heap.size w w') := by
  have B : Hid (∀ k, k < 3 → okf (nth3 c v r k) = false → chk c v r e n = 80) := Lib.hid (fun k => chk_bad)
  have G : Hid ((∀ j, j < 3 → okf (nth3 c v r j) = true) → chk c v r e n = chkN e n) := Lib.hid chk_good
  have i0 : ∀ w : World, (Instr.index 83 (.agg #[.float .f64 c, .float .f64 v, .float .f64 r]) (.int .i64 0)).run Try.prog w = .ok (.float .f64 c) w := fun _ => by kernel_rfl
  have i1 : ∀ w : World, (Instr.index 83 (.agg #[.float .f64 c, .float .f64 v, .float .f64 r]) (.int .i64 1)).run Try.prog w = .ok (.float .f64 v) w := fun _ => by kernel_rfl
  have i2 : ∀ w : World, (Instr.index 83 (.agg #[.float .f64 c, .float .f64 v, .float .f64 r]) (.int .i64 2)).run Try.prog w = .ok (.float .f64 r) w := fun _ => by kernel_rfl
  go_enter Try.func28, Try.ntmps28
  go_wp2_with fail
  go_loopw [12] (fun i wr => ∃ k : Nat, k ≤ 3 ∧ i = .int .i64 k ∧ (∀ j, j < k → okf (nth3 c v r j) = true) ∧ wr.cell? ⟨w.heap.size, 3, none⟩ = some (.int .i64 e) ∧ wr.cell? ⟨w.heap.size, 4, none⟩ = some (.int .i64 n) ∧ Below w.heap.size w wr ∧ w.heap.size < wr.heap.size) (fun i _ => 3 - (intOf i).toNat)
  case atStart => exact ⟨0, by omega, rfl, fun j hj => absurd hj (Nat.not_lt_zero _), by go_simp, by go_simp, (by (repeat' (first | assumption | exact Below.refl _ _ | refine below_drewN ?_ _ | refine Below.drew ?_ | refine Below.setCell ?_ (by first | exact Nat.le_refl _ | (simp; done) | (simp; omega)) _ | refine Below.alloc ?_ (by first | exact Nat.le_refl _ | (simp; done) | (simp; omega)) _))), by simp⟩
  case round =>
    obtain ⟨k, hk, rfl, hok, c3, c4, hbw, hz⟩ := hrel
    have OK := Lib.hid hok
    clear hok
    by_cases hlt : k < 3
    · have hk3 : k = 0 ∨ k = 1 ∨ k = 2 := by omega
      have K3 := Lib.hid hk3
      clear hk3
      cases hc : cgt (nth3 c v r k) 0
      · have bad := Lib.hid (B.out k hlt (by unfold okf; rw [hc]; rfl))
        rcases K3.out with rfl | rfl | rfl
        all_goals
          have e1 : (FloatKind.f64.format.order _ 0 == some Ordering.gt) = false := hc
          clear hc
          simp only [nth3] at e1
          go_wp2_with fail
          go_ret
          exact ⟨rc_int bad.out.symm, hbw⟩
      · by_cases hf : Lk.Fin (nth3 c v r k)
        · have good : ∀ j, j < k + 1 → okf (nth3 c v r j) = true := fun j hj => by
            by_cases hjk : j < k
            · exact OK.out j hjk
            · obtain rfl : j = k := by omega
              unfold okf; rw [hc, decide_eq_true hf]; rfl
          have GD := Lib.hid good
          clear good
          rcases K3.out with rfl | rfl | rfl
          all_goals
            have e1 : (FloatKind.f64.format.order _ 0 == some Ordering.gt) = true := hc
            clear hc
            simp only [nth3] at e1 hf
            go_wp2_with (go_at_call 51; refine (fine_walk _ _).mono ?_; rintro e' w1 ⟨rfl, hb⟩; have d3 := (hb.cell (p := ⟨w.heap.size, 3, none⟩) hz).trans c3; have d4 := (hb.cell (p := ⟨w.heap.size, 4, none⟩) hz).trans c4; have hb1 := hbw.trans (hb.mono hbw.size); have hz1 := hb.size)
            go_roundw
          case rel => exact ⟨1, by omega, by go_num, GD.out, d3, d4, hb1, by omega⟩
          case measure => simp [intOf]
          case rel => exact ⟨2, by omega, by go_num, GD.out, d3, d4, hb1, by omega⟩
          case measure => simp [intOf]
          case rel => exact ⟨3, by omega, by go_num, GD.out, d3, d4, hb1, by omega⟩
          case measure => simp [intOf]
        · have bad := Lib.hid (B.out k hlt (by unfold okf; rw [decide_eq_false hf]; simp))
          rcases K3.out with rfl | rfl | rfl
          all_goals
            have e1 : (FloatKind.f64.format.order _ 0 == some Ordering.gt) = true := hc
            clear hc
            simp only [nth3] at e1 hf
            go_wp2_with (go_at_call 51; refine (fine_walk _ _).mono ?_; rintro e' w1 ⟨rfl, hb⟩; have hb1 := hbw.trans (hb.mono hbw.size))
            go_ret
            exact ⟨rc_int bad.out.symm, hb1⟩
    · obtain rfl : k = 3 := by omega
      have gd := G.out OK.out
      have GD := Lib.hid gd
      clear gd
      have CN : Hid (chkN e n = if e < 1 ∨ 16384 < e ∨ n < 1 ∨ 256 < n then 80 else if 262144 < e * n then 3 else 0) := Lib.hid rfl
      by_cases q1 : e < 1
      · go_wp2_with fail
        go_ret
        exact ⟨rc_int (by rw [GD.out, CN.out, if_pos (by omega)]), hbw⟩
      · by_cases q2 : 16384 < e
        · go_wp2_with fail
          go_ret
          exact ⟨rc_int (by rw [GD.out, CN.out, if_pos (by omega)]), hbw⟩
        · by_cases q3 : n < 1
          · go_wp2_with fail
            go_ret
            exact ⟨rc_int (by rw [GD.out, CN.out, if_pos (by omega)]), hbw⟩
          · by_cases q4 : 256 < n
            · go_wp2_with fail
              go_ret
              exact ⟨rc_int (by rw [GD.out, CN.out, if_pos (by omega)]), hbw⟩
            · have m1 : 0 ≤ e * n := Int.mul_nonneg (by omega) (by omega)
              have m2 : e * n ≤ 16384 * 256 := Int.mul_le_mul (by omega) (by omega) (by omega) (by omega)
              have hw : wrap64 (e * n) = e * n := by unfold wrap64; omega
              by_cases q5 : 262144 < e * n
              · go_wp2_with fail
                go_ret
                exact ⟨rc_int (by rw [GD.out, CN.out, if_neg (by omega), if_pos q5]), hbw⟩
              · go_wp2_with fail
                go_ret
                exact ⟨rc_int (by rw [GD.out, CN.out, if_neg (by omega), if_neg (Int.not_lt.2 q5)]), hbw⟩
end Go.Proofs.Ytdngkeefbpffcaa
