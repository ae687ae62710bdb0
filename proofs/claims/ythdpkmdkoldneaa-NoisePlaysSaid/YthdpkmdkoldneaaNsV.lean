import Derived.Test.YthdpkmdkoldneaaNsR
import Derived.Test.YthdpkmdkoldneaaFlI
import Derived.Laws.FloatArith
set_option autoImplicit false
set_option linter.unusedVariables false
namespace Go.Proofs.Ythdpkmdkoldneaa
open Go.RowKit Lk
/-! the document's source -/
def BlR (W : World) (g s : Nat) : Prop := W.heap[g]? = some (.cells #[.int .u64 s] 50 (0, 0))
theorem BlR.lt {W : World} {g s : Nat} (h : BlR W g s) : g < W.heap.size := (Array.getElem?_eq_some_iff.1 h).1
theorem BlR.keep {W w' : World} {g s b : Nat} (h : BlR W g s) (hb : One b W w') (hn : g ≠ b) : BlR w' g s := (hb.block _ h.lt hn).trans h
theorem BlR.stay {W w' : World} {g s : Nat} (h : BlR W g s) (hb : Below W.heap.size W w') : BlR w' g s := (hb.block _ h.lt).trans h
theorem BlR.cell {W : World} {g s : Nat} (h : BlR W g s) : W.cell? ⟨g, 0, none⟩ = some (.int .u64 s) := cell_of_heap h 0
theorem BlR.frozen {W : World} {g s : Nat} (h : BlR W g s) : W.frozen? ⟨g, 0, none⟩ = false := by unfold World.frozen?; rw [h]; rfl
theorem BlR.new (W : World) (s : Nat) : BlR (W.alloc (.cells #[.int .u64 s] 50)) W.heap.size s := by
  unfold BlR; show (W.heap.push _)[W.heap.size]? = _; simp
theorem BlR.set {W : World} {g s : Nat} (h : BlR W g s) {v : Value} {t : Nat} (hv : v = .int .u64 t) : BlR (W.setCell ⟨g, 0, none⟩ v) g t ∧ One g W (W.setCell ⟨g, 0, none⟩ v) := by
  subst hv
  refine ⟨?_, rfl, rfl, rfl, by simp [World.setCell], fun k _ hk => Deep.blk_setCell_other _ _ _ _ hk⟩
  have hlt := h.lt
  have hv : W.heap[g] = _ := (Array.getElem?_eq_some_iff.1 h).2
  unfold BlR World.setCell
  rw [Array.getElem?_eq_getElem (by simpa using hlt), Array.getElem_modify]
  simp [hv]
theorem rnext_walk (s b : Nat) (w : World) (hb : BlR w b s) : Calls Try.prog 23 #[.pointer (some ⟨b, 0, none⟩)] w (fun e w' => e = .returned (.int .u64 (mix (nx s) : Nat)) ∧ BlR w' b (nx s) ∧ One b w w') := by
  have c0 := hb.cell
  have f0 := hb.frozen
  have M := Lib.hid (mix_form s)
  have A := Lib.hid (wrap_add s)
  have B := Lib.hid hb
  clear hb
  go_enter Try.func23, Try.ntmps23
  go_wp2
  go_ret
  exact ⟨ret_u64 M.out, B.out.set (by rw [A.out])⟩
theorem rnext_nil (w : World) : Calls Try.prog 23 #[.pointer none] w (fun e w' => e = .returned (.int .u64 0) ∧ w = w') := by
  go_enter Try.func23, Try.ntmps23
  go_wp2
  go_ret
  exact ⟨rfl, rfl⟩
theorem rskip_walk (s n b : Nat) (w : World) (hb : BlR w b s) : Calls Try.prog 33 #[.pointer (some ⟨b, 0, none⟩), .int .u64 n] w (fun e w' => e = .returned (.tuple #[]) ∧ BlR w' b (skp s n) ∧ One b w w') := by
  have c0 := hb.cell
  have f0 := hb.frozen
  have A := Lib.hid (skip_form s n)
  have B := Lib.hid hb
  clear hb
  go_enter Try.func33, Try.ntmps33
  go_wp2
  go_end0
  exact ⟨rfl, B.out.set (by rw [A.out])⟩
theorem rskip_nil (n : Int) (w : World) : Calls Try.prog 33 #[.pointer none, .int .u64 n] w (fun e w' => e = .returned (.tuple #[]) ∧ w = w') := by
  go_enter Try.func33, Try.ntmps33
  go_wp2
  go_end0
  exact ⟨rfl, rfl⟩
theorem rstate_walk (s b : Nat) (w : World) (hb : BlR w b s) : Calls Try.prog 15 #[.pointer (some ⟨b, 0, none⟩)] w (fun e w' => e = .returned (.int .u64 s) ∧ w = w') := by
  have c0 := hb.cell
  clear hb
  go_enter Try.func15, Try.ntmps15
  go_wp2
  go_ret
  exact ⟨rfl, rfl⟩
theorem rstate_nil (w : World) : Calls Try.prog 15 #[.pointer none] w (fun e w' => e = .returned (.int .u64 0) ∧ w = w') := by
  go_enter Try.func15, Try.ntmps15
  go_wp2
  go_ret
  exact ⟨rfl, rfl⟩
theorem rnew_walk (s : Nat) (w : World) : Calls Try.prog 13 #[.int .u64 s] w (fun e w' => e = .returned (.pointer (some ⟨w.heap.size, 0, none⟩)) ∧ BlR w' w.heap.size s ∧ Below w.heap.size w w' ∧ w'.heap.size = w.heap.size + 1) := by
  go_enter Try.func13, Try.ntmps13
  go_wp2
  go_ret
  exact ⟨rfl, BlR.new w s, (Below.refl _ _).alloc (Nat.le_refl _) _, by simp⟩
theorem p2_53w : Lk.Fin 4845873199050653696 ∧ ev 4845873199050653696 = p2 53 := by decide +kernel
theorem mg_shift' {x y : Nat} (hx : Norm x) (hy : Norm y) (h : (x : Int) = y + 53 * 2 ^ 52) : mg x = mg y * p2 53 := by
  unfold Norm INF at hx hy
  have e1 : x = (((x / 2 ^ 52 : Nat) : Int) - 1075 + 1074).toNat * 2 ^ 52 + (2 ^ 52 + x % 2 ^ 52) := by omega
  have e2 : y = (((x / 2 ^ 52 : Nat) : Int) - 1128 + 1074).toNat * 2 ^ 52 + (2 ^ 52 + x % 2 ^ 52) := by omega
  have r1 : mg x = ((2 ^ 52 + x % 2 ^ 52 : Nat) : Rat) * p2 (((x / 2 ^ 52 : Nat) : Int) - 1075) := by
    have := mg_rung (e := ((x / 2 ^ 52 : Nat) : Int) - 1075) (k := 2 ^ 52 + x % 2 ^ 52) (by omega) (by omega) (.inr (by omega))
    rwa [← e1] at this
  have r2 : mg y = ((2 ^ 52 + x % 2 ^ 52 : Nat) : Rat) * p2 (((x / 2 ^ 52 : Nat) : Int) - 1128) := by
    have := mg_rung (e := ((x / 2 ^ 52 : Nat) : Int) - 1128) (k := 2 ^ 52 + x % 2 ^ 52) (by omega) (by omega) (.inr (by omega))
    rwa [← e2] at this
  rw [r1, r2, Rat.mul_assoc, ← p2_add]
  congr 2
  omega
/-- a quotient by 2^53 is the float by its word -/
theorem flt_quo {m : Nat} (h : m < 2 ^ 53) : fdiv (floatOfInt .f64 m) 4845873199050653696 = flt m := by
  by_cases h0 : m = 0
  · subst h0; decide +kernel
  · obtain ⟨n1, n2, n3, _⟩ := flt_norm h0 h
    obtain ⟨fW, eW⟩ := p2_53w
    have p0 := p2_pos 53
    obtain ⟨d1, d2, d3, d4⟩ := fdiv_fin n1.fin fW (by rw [eW]; grind)
    have ne : ∀ {x : Nat}, Norm x → ev x = mg x := by
      intro x h
      have hr : rg x = x := by unfold Norm INF at h; unfold rg SGN; omega
      unfold ev; rw [h.sgn, hr]; rfl
    refine word_inj d1 (by have := n3.2; unfold INF at this; omega) ?_ ?_
    · have hq : mg (flt m) * p2 53 / p2 53 = mg (flt m) := Rat.mul_div_cancel (by grind)
      rw [d3, eW, ne n1, mg_shift' n1 n3 (by omega), hq, ← ne n3]
      exact rc_ev _ n3.fin.not_nan
    · rw [d4, n1.sgn, n3.sgn]; decide
theorem flt_nn {m : Nat} (h : m < 2 ^ 53) : ¬ Nan (flt m) := by
  by_cases h0 : m = 0
  · subst h0; decide +kernel
  · exact (flt_norm h0 h).2.2.1.fin.not_nan
theorem rfloat_walk (s b : Nat) (w : World) (hb : BlR w b s) : Calls Try.prog 25 #[.pointer (some ⟨b, 0, none⟩)] w (fun e w' => e = .returned (.float .f64 (flt (mix (nx s) / 2048))) ∧ BlR w' b (nx s) ∧ One b w w') := by
  have hm : mix (nx s) / 2048 < 2 ^ 53 := by have := mix_lt (nx s); omega
  have hq : ((mix (nx s) : Nat) : Int) / 2048 = ((mix (nx s) / 2048 : Nat) : Int) := by omega
  have NN := Lib.hid (flt_nn hm)
  have FQ := Lib.hid (flt_quo hm)
  generalize mix (nx s) / 2048 = m at *
  go_enter Try.func25, Try.ntmps25
  go_wp2_with (first | (go_at_call 23; refine (rnext_walk s b _ hb).mono ?_; rintro e w1 ⟨rfl, h1, h2⟩) | (((with_reducible refine wpList_float (x := ?_) (y := ?_) (X := ?_) (Y := ?_) rfl rfl ?_ ?_ ?_ ?_ ?_ ?_); (· rfl); (rotate_left 4); (· rfl); (· rfl); (· first | assumption | exact Is.refl _); (· first | assumption | exact Is.refl _); intro v n hv hl); have e9 := (hv.eq (show ¬ Nan (fdiv (floatOfInt .f64 m) 4845873199050653696) by rw [FQ.out]; exact NN.out)).trans FQ.out; subst e9; clear hv))
  go_ret
  exact ⟨rfl, h1, h2.drew _⟩
theorem rfloat_nil (w : World) : Calls Try.prog 25 #[.pointer none] w (fun e w' => e = .returned (.float .f64 0) ∧ Below w.heap.size w w') := by
  have NN := Lib.hid (flt_nn (m := 0) (by decide))
  have FQ := Lib.hid (flt_quo (m := 0) (by decide))
  have z : flt 0 = 0 := rfl
  rw [z] at NN FQ
  go_enter Try.func25, Try.ntmps25
  go_wp2_with (first | (go_at_call 23; refine (rnext_nil _).mono ?_; rintro e w1 ⟨rfl, rfl⟩) | (((with_reducible refine wpList_float (x := ?_) (y := ?_) (X := ?_) (Y := ?_) rfl rfl ?_ ?_ ?_ ?_ ?_ ?_); (· rfl); (rotate_left 4); (· rfl); (· rfl); (· first | assumption | exact Is.refl _); (· first | assumption | exact Is.refl _); intro v n hv hl); have e9 := (hv.eq (show ¬ Nan (fdiv (floatOfInt .f64 (0 : Nat)) 4845873199050653696) by rw [FQ.out]; exact NN.out)).trans FQ.out; subst e9; clear hv))
  go_ret
  exact ⟨rfl, below_drewN (Below.refl _ _) _⟩
theorem next_nil' (w : World) : Calls Try.prog 9 #[.pointer none] w (fun e w' => e = .returned (.int .u64 0) ∧ w = w') := by
  go_enter Try.func9, Try.ntmps9
  go_wp2
  go_ret
  exact ⟨rfl, rfl⟩
theorem float_nil (w : World) : Calls Try.prog 16 #[.pointer none] w (fun e w' => e = .returned (.float .f64 0) ∧ w = w') := by
  have hz : floatOfInt .f64 0 = 0 := by decide +kernel
  go_enter Try.func16, Try.ntmps16
  go_wp2_with (first | (go_at_call 9; refine (next_nil' _).mono ?_; rintro e w1 ⟨rfl, rfl⟩) | (go_at_call 22; refine (Ldexp_zero _ _).mono ?_; rintro e w2 ⟨rfl, rfl⟩))
  go_ret
  exact ⟨rfl, rfl⟩
theorem rbell_walk (s b : Nat) (w : World) (hs : s < 2 ^ 64) (hb : BlR w b s) : Calls Try.prog 26 #[.pointer (some ⟨b, 0, none⟩)] w (fun e w' => e = .returned (.float .f64 (bellF s)) ∧ BlR w' b (skp s 12) ∧ One b w w') := by
  go_enter Try.func26, Try.ntmps26
  go_wp2_with (go_at_call 25; refine (rfloat_walk s b _ hb).mono ?_; rintro e w1 ⟨rfl, h1, h2⟩)
  go_loopw [3, 4] (fun v i wr => ∃ k : Nat, k ≤ 11 ∧ i = .int .i64 (k + 1 : Nat) ∧ v = .float .f64 (sumF s k) ∧ BlR wr b (skp s (k + 1)) ∧ One b w wr) (fun _ i _ => 12 - (intOf i).toNat)
  case atStart => exact ⟨0, by omega, rfl, rfl, by rw [← nx_skp, skp_zero hs]; exact h1, h2⟩
  case round =>
    obtain ⟨k, hk, rfl, rfl, hbk, ho⟩ := hrel
    clear h1 h2
    have HE : ∀ v, Is v (fop BinOp.add (sumF s k) (flt (mix (nx (skp s (k + 1))) / 2048))) → k < 11 → v = sumF s (k + 1) := fun v hv hlt => hv.eq (sumF_bd s (k + 1) (by omega)).1.not_nan
    have HS : ∀ v, Is v (fop BinOp.sub (sumF s k) 4618441417868443648) → ¬ k < 11 → v = bellF s := fun v hv hlt => by
      obtain rfl : k = 11 := by omega
      exact hv.eq (bell_fin s)
    by_cases hlt : k < 11
    · go_wp2_with (first | (go_at_call 25; refine (rfloat_walk (skp s (k + 1)) b _ hbk).mono ?_; rintro e w1 ⟨rfl, h1, h2⟩) | (((with_reducible refine wpList_float (x := ?_) (y := ?_) (X := ?_) (Y := ?_) rfl rfl ?_ ?_ ?_ ?_ ?_ ?_); (· rfl); (rotate_left 4); (· rfl); (· rfl); (· first | assumption | exact Is.refl _); (· first | assumption | exact Is.refl _); intro v n hv hl); obtain rfl := HE _ hv hlt))
      go_roundw
      case rel => exact ⟨k + 1, by omega, by go_num, rfl, by rw [← nx_skp]; exact h1, (ho.trans h2).drew _⟩
      case measure => simp [intOf]; omega
    · go_wp2_with (((with_reducible refine wpList_float (x := ?_) (y := ?_) (X := ?_) (Y := ?_) rfl rfl ?_ ?_ ?_ ?_ ?_ ?_); (· rfl); (rotate_left 4); (· rfl); (· rfl); (· first | assumption | exact Is.refl _); (· first | assumption | exact Is.refl _); intro v n hv hl); obtain rfl := HS _ hv hlt)
      go_ret
      obtain rfl : k = 11 := by omega
      exact ⟨rfl, hbk, ho.drew _⟩
theorem rbell_nil (w : World) : Calls Try.prog 26 #[.pointer none] w (fun e w' => e = .returned (.float .f64 0) ∧ w = w') := by
  go_enter Try.func26, Try.ntmps26
  go_wp2
  go_ret
  exact ⟨rfl, rfl⟩
end Go.Proofs.Ythdpkmdkoldneaa
