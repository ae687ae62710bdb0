import Derived.Test.YtdngkeefbpffcaaPlI
import Derived.Test.YtdngkeefbpffcaaFlG
import Derived.Test.YtdngkeefbpffcaaFlY
set_option autoImplicit false
set_option linter.unusedVariables false
namespace Go.Proofs.Ytdngkeefbpffcaa
open Go.RowKit Lk Pl
theorem xor_top (x : Nat) (h : x < 2 ^ 64) : x ^^^ 2 ^ 63 = fneg x := by
  have h1 : (x ^^^ 2 ^ 63) % 2 ^ 63 = x % 2 ^ 63 := by rw [Nat.xor_mod_two_pow]; exact Nat.xor_zero _
  have h2 : (x ^^^ 2 ^ 63) / 2 ^ 63 = x / 2 ^ 63 ^^^ 1 := by
    rw [← Nat.shiftRight_eq_div_pow, Nat.shiftRight_xor_distrib, Nat.shiftRight_eq_div_pow, Nat.shiftRight_eq_div_pow]
  have h3 : x / 2 ^ 63 < 2 := by omega
  have h4 := Nat.div_add_mod (x ^^^ 2 ^ 63) (2 ^ 63)
  rw [h1, h2] at h4
  unfold fneg wd sgn rg SGN
  simp only [show (9223372036854775808 : Nat) = 2 ^ 63 from rfl]
  have h6 : x / 2 ^ 63 = 0 ∨ x / 2 ^ 63 = 1 := by omega
  generalize x ^^^ 2 ^ 63 = y at *
  rcases h6 with h5 | h5
  · rw [h5, show (0 : Nat) ^^^ 1 = 1 from rfl] at h4
    rw [h5]
    simp only [Nat.zero_mod, show ((0 : Nat) == 1) = false from rfl, Bool.not_false, if_true]
    omega
  · rw [h5, show (1 : Nat) ^^^ 1 = 0 from rfl] at h4
    rw [h5]
    simp only [show (1 : Nat) % 2 = 1 from rfl, beq_self_eq_true, Bool.not_true, Bool.false_eq_true, if_false]
    omega
theorem neg_fneg (x : Nat) (h : x < 2 ^ 64) : Op.negFloat .f64 x = fneg x := xor_top x h
@[go_sem] theorem run_neg_float (x : Nat) (w : World) : (Op.unary UnOp.neg (.float .f64 x)).run Try.prog w = .ok (.float .f64 (Op.negFloat .f64 x)) w := rfl
theorem told_walk (x : Nat) (w : World) : Calls Try.prog 57 #[.float .f64 x] w (fun e w' => e = .returned (.tuple #[.float .f64 (if Lk.Fin x then x else 0), .int .i64 (if Lk.Fin x then 0 else 6)]) ∧ Below w.heap.size w w') := by
  by_cases h : Lk.Fin x
  · rw [if_pos h, if_pos h]
    go_enter Try.func57, Try.ntmps57
    go_wp2_with (go_at_call 51; refine (fine_walk _ _).mono ?_; rintro e' w1 ⟨rfl, hb⟩)
    refine bodyPost_ret (results_tmp2 rfl _ _ _) rfl ?_
    exact ⟨rfl, hb⟩
  · rw [if_neg h, if_neg h]
    go_enter Try.func57, Try.ntmps57
    go_wp2_with (go_at_call 51; refine (fine_walk _ _).mono ?_; rintro e' w1 ⟨rfl, hb⟩)
    refine bodyPost_ret (results_tmp2 rfl _ _ _) rfl ?_
    exact ⟨rfl, hb⟩
def ask (c v r : Nat) (e n : Int) (x : Nat) : Int := if chk c v r e n = 0 then (if Lk.Fin x then 0 else 6) else chk c v r e n
theorem asked_walk (c v r : Nat) (e n : Int) (x : Nat) (w : World) (h1 : -9223372036854775808 ≤ e) (h2 : e ≤ 9223372036854775807) (h3 : -9223372036854775808 ≤ n) (h4 : n ≤ 9223372036854775807) :
    Calls Try.prog 56 #[btv c v r e n, .float .f64 x] w (fun e' w' => e' = .returned (.int .i64 (ask c v r e n x)) ∧ Below w.heap.size w w') := by
  have A : Hid (ask c v r e n x = if chk c v r e n = 0 then (if Lk.Fin x then 0 else 6) else chk c v r e n) := Lib.hid rfl
  by_cases h : chk c v r e n = 0
  · have H := Lib.hid h
    clear h
    by_cases hx : Lk.Fin x
    all_goals
      go_enter Try.func56, Try.ntmps56
      go_wp2_with (first | (go_at_call 28; refine (check_walk c v r e n _ h1 h2 h3 h4).mono ?_; rw [H.out]; rintro e' w1 ⟨rfl, hb⟩; have hb1 : Below w.heap.size w w1 := ((Below.refl _ _).alloc (Nat.le_refl _) _).trans (hb.mono (by simp))) | (go_at_call 51; refine (fine_walk _ _).mono ?_; rintro e' w2 ⟨rfl, hb2⟩; have hb3 := hb1.trans (hb2.mono hb1.size)))
      go_ret
      exact ⟨rc_int (by rw [A.out, H.out]; simp [hx]), hb3⟩
  · have A2 : ask c v r e n x = chk c v r e n := by rw [A.out, if_neg h]
    have A3 := Lib.hid A2
    clear A2
    go_enter Try.func56, Try.ntmps56
    go_wp2_with (first | (go_at_call 28; refine (check_walk c v r e n _ h1 h2 h3 h4).mono ?_; rintro e' w1 ⟨rfl, hb⟩; have hb1 : Below w.heap.size w w1 := ((Below.refl _ _).alloc (Nat.le_refl _) _).trans (hb.mono (by simp))))
    go_ret
    exact ⟨rc_int A3.out.symm, hb1⟩
theorem gchk_zero {c v r : Nat} {e n : Int} (h : chk c v r e n = 0) : okf c = true ∧ okf v = true ∧ okf r = true ∧ 1 ≤ e ∧ e ≤ 16384 ∧ 1 ≤ n ∧ n ≤ 256 := by
  unfold chk at h
  split at h
  · rename_i h3
    unfold chk3 at h3
    simp only [Bool.and_eq_true] at h3
    unfold chkN at h
    split at h
    · cases h
    · exact ⟨h3.1.1, h3.1.2, h3.2, by omega, by omega, by omega, by omega⟩
  · cases h
theorem ask_zero {c v r x : Nat} {e n : Int} (h : ask c v r e n x = 0) : chk c v r e n = 0 ∧ Lk.Fin x := by
  unfold ask at h
  split at h
  · split at h
    · exact ⟨by assumption, by assumption⟩
    · cases h
  · rename_i h1; exact absurd h h1
theorem okf_pos {c : Nat} (h : okf c = true) : Lk.Fin c ∧ ev c ≠ 0 := by
  obtain ⟨h1, h2⟩ := okf_ff h
  have : cgt c 0 = true := h1
  rw [cgt_iff, show ev 0 = 0 by kernel_rfl] at this
  exact ⟨h2, by obtain ⟨_, _, h⟩ := this; grind⟩
def R2 (x : Nat × Int) (w : World) (e' : Ending) (w' : World) : Prop := e' = .returned (.tuple #[.float .f64 x.1, .int .i64 x.2]) ∧ Below w.heap.size w w'
theorem r2 {x y : Nat × Int} (h : x = y) : Ending.returned (.tuple #[.float .f64 y.1, .int .i64 y.2]) = .returned (.tuple #[.float .f64 x.1, .int .i64 x.2]) := by rw [h]
def sec (e : Int) (r : Nat) : Nat := fdiv (floatOfInt .f64 e) r
theorem sec_nn {e : Int} {r : Nat} (h1 : 1 ≤ e) (h2 : e ≤ 16384) (hr : okf r = true) : ¬ Nan (sec e r) := by
  obtain ⟨f1, f2⟩ := okf_pos hr
  exact (fdiv_fin (V.ofInt (n := e) (by omega)).1.1 f1 f2).2.1
theorem seconds_walk (c v r : Nat) (e n : Int) (w : World) (h1 : 1 ≤ e) (h2 : e ≤ 16384) (hr : okf r = true) : Calls Try.prog 58 #[btv c v r e n] w (fun e' w' => e' = .returned (.float .f64 (sec e r)) ∧ Below w.heap.size w w') := by
  have HN := Lib.hid (sec_nn h1 h2 hr)
  go_enter Try.func58, Try.ntmps58
  go_wp2_with (((with_reducible refine wpList_float (x := ?_) (y := ?_) (X := ?_) (Y := ?_) rfl rfl ?_ ?_ ?_ ?_ ?_ ?_); (· rfl); (rotate_left 4); (· rfl); (· rfl); (· first | assumption | exact Is.refl _); (· first | assumption | exact Is.refl _); intro v n hv hl); have e9 := hv.eq HN.out; subst e9; clear hv)
  go_ret
  exact ⟨rfl, below_drewN ((Below.refl _ _).alloc (Nat.le_refl _) _) _⟩
def tld (y : Nat) : Nat := if Lk.Fin y then y else 0
def tle (y : Nat) : Int := if Lk.Fin y then 0 else 6
structure TG (e : Int) (r : Nat) (z : Nat) (f : FuncId) (args : Array Value) (u : Value) (w : World) : Prop where
  a : f = 58 → u = .float .f64 (sec e r)
  b : f = 57 → ∀ y, args = #[.float .f64 y] → u = .tuple #[.float .f64 (tld y), .int .i64 (tle y)]
theorem tg_a {c v r z : Nat} {e n : Int} (h1 : 1 ≤ e) (h2 : e ≤ 16384) (hr : okf r = true) (w : World) : Calls Try.prog 58 #[btv c v r e n] w (fun e' w'' => ∃ u, e' = .returned u ∧ TG e r z 58 #[btv c v r e n] u w'' ∧ Ext w w'') :=
  (seconds_walk c v r e n w h1 h2 hr).mono fun e' w' ⟨he, hb⟩ => ⟨_, he, ⟨fun _ => rfl, (fun h => absurd h (by decide))⟩, hb⟩
theorem tg_b {r z y : Nat} {e : Int} (w : World) : Calls Try.prog 57 #[.float .f64 y] w (fun e' w'' => ∃ u, e' = .returned u ∧ TG e r z 57 #[.float .f64 y] u w'' ∧ Ext w w'') :=
  (told_walk y w).mono fun e' w' ⟨he, hb⟩ => ⟨_, he, ⟨(fun h => absurd h (by decide)), fun _ y' h => by simp only [Array.mk.injEq, List.cons.injEq, Value.float.injEq, true_and, and_true] at h; rw [h]; rfl⟩, hb⟩
def spF (v r : Nat) (e n : Int) (x : Nat) : Nat := fneg (fdiv (fmul (fdiv x (floatOfInt .f64 n)) v) (fmul 4611686018427387904 (sec e r)))
def spd (c v r : Nat) (e n : Int) (x : Nat) : Nat × Int :=
  if ask c v r e n x = 0 then (tld (spF v r e n x), tle (spF v r e n x)) else (0, ask c v r e n x)
theorem is_fneg {v X : Nat} (h : Is v X) (hl : v < 2 ^ 64) : Is (Op.negFloat .f64 v) (fneg X) := by
  rw [neg_fneg v hl]
  by_cases hn : Nan X
  · exact .inl ⟨nan_fneg.2 (h.nan.2 hn), nan_fneg.2 hn⟩
  · rw [h.eq hn]; exact Is.refl _
theorem told_is {y X : Nat} (h : Is y X) : tld y = tld X ∧ tle y = tle X := by
  unfold tld tle
  by_cases hf : Lk.Fin X
  · have : y = X := h.eq hf.not_nan
    rw [this]; exact ⟨rfl, rfl⟩
  · have : ¬ Lk.Fin y := fun h2 => hf ((is_fin h).1 h2)
    rw [if_neg hf, if_neg this, if_neg hf, if_neg this]; exact ⟨rfl, rfl⟩
theorem ret_two {a b : Nat} {i j : Int} (h : a = b ∧ i = j) : Ending.returned (.tuple #[.float .f64 a, .int .i64 i]) = .returned (.tuple #[.float .f64 b, .int .i64 j]) := by rw [h.1, h.2]
set_option maxHeartbeats 4000000 in
theorem speed_walk (c v r : Nat) (e n : Int) (x : Nat) (w : World) (h1 : -9223372036854775808 ≤ e) (h2 : e ≤ 9223372036854775807) (h3 : -9223372036854775808 ≤ n) (h4 : n ≤ 9223372036854775807) :
    Calls Try.prog 30 #[btv c v r e n, .float .f64 x] w (R2 (spd c v r e n x) w) := by
  by_cases hA : ask c v r e n x = 0
  · obtain ⟨hC, hF⟩ := ask_zero hA
    obtain ⟨oc, ov, or', e1, e2, _⟩ := gchk_zero hC
    have HA := Lib.hid hA
    have HR := Lib.hid or'
    have E : Hid (spd c v r e n x = (tld (spF v r e n x), tle (spF v r e n x))) := Lib.hid (by unfold spd; rw [if_pos hA])
    clear hA hC oc ov or'
    go_enter Try.func30, Try.ntmps30
    go_wp2_with (go_at_call 56; refine (asked_walk c v r e n x _ h1 h2 h3 h4).mono ?_; rw [HA.out]; rintro e' w1 ⟨rfl, hb⟩; have c0 := (hb.cell (p := ⟨w.heap.size, 0, none⟩) (by simp)).trans (by go_simp : _ = some (.float .f64 c)); have c1 := (hb.cell (p := ⟨w.heap.size, 1, none⟩) (by simp)).trans (by go_simp : _ = some (.float .f64 v)); have c2 := (hb.cell (p := ⟨w.heap.size, 2, none⟩) (by simp)).trans (by go_simp : _ = some (.float .f64 r)); have c3 := (hb.cell (p := ⟨w.heap.size, 3, none⟩) (by simp)).trans (by go_simp : _ = some (.int .i64 e)); have c4 := (hb.cell (p := ⟨w.heap.size, 4, none⟩) (by simp)).trans (by go_simp : _ = some (.int .i64 n)); have hz1 := hb.size; have hz0 : w.heap.size < w1.heap.size := (by simp at hz1; omega); have hB : Below w.heap.size w w1 := ((Below.refl _ _).alloc (Nat.le_refl _) _).trans (hb.mono (by simp)))
    refine wp_region_G (TG e r 0) (by kernel_rfl) (by kernel_rfl) ?_
    repeat' (refine wpG_step' (fun K hA hK => ?_); go_simp; first | (refine bothG_value hA (v := ?_) (fun w' hw' => ?_) ?_; rotate_left; (· go_simp; rfl); (refine hK _ _ ?_; clear hK hA K)) | (refine bothG_call (f := 58) (args := ?_) (fun w' => ?_) (fun w' _ => ?_) ?_; rotate_left; (· go_simp; rfl); (· exact tg_a e1 e2 HR.out _); (intro u y hu; obtain rfl := hu.a rfl; clear hu; refine hK _ _ ?_; clear hK hA K)) | (refine bothG_call (f := 57) (args := ?_) (fun w' => ?_) (fun w' _ => ?_) ?_; rotate_left; (· go_simp; rfl); (· exact tg_b _); (intro u y hu; obtain rfl := hu.b rfl _ rfl; clear hu; refine hK _ _ ?_; clear hK hA K)) | (refine bothG_float hA (x := ?_) (y := ?_) (X := ?_) (Y := ?_) rfl ?_ ?_ ?_ ?_ ?_ ?_; rotate_left 4; (· rfl); (· rfl); (· rfl); (· first | assumption | exact Is.refl _); (· first | assumption | exact Is.refl _); intro v hv hl; refine hK _ _ ?_; clear hK hA K))
    refine wpG_nil ?_
    intro w2 hb2 hF
    clear hF
    go_wp2_with fail
    refine bodyPost_ret (results_tmp2 rfl _ _ _) rfl ?_
    exact ⟨(ret_two (told_is (is_fneg (by assumption) (by assumption)))).trans (r2 E.out), hB.trans (hb2.mono hB.size)⟩
  · have E : Hid (spd c v r e n x = (0, ask c v r e n x)) := Lib.hid (by unfold spd; rw [if_neg hA])
    go_enter Try.func30, Try.ntmps30
    go_wp2_with (go_at_call 56; refine (asked_walk c v r e n x _ h1 h2 h3 h4).mono ?_; rintro e' w1 ⟨rfl, hb⟩; have hB : Below w.heap.size w w1 := ((Below.refl _ _).alloc (Nat.le_refl _) _).trans (hb.mono (by simp)))
    refine bodyPost_ret (results_tmp2 rfl _ _ _) rfl ?_
    exact ⟨r2 E.out, hB⟩
end Go.Proofs.Ytdngkeefbpffcaa
