import Derived.Test.YtdngkeefbpffcaaPvB
import Derived.Test.YtdngkeefbpffcaaPlT
set_option autoImplicit false
set_option linter.unusedVariables false
namespace Go.Proofs.Ytdngkeefbpffcaa
open Go.RowKit Lk Pl
/-! the document's order of plots -/
theorem sameF_no {x y : Nat} (h : sameF x y = false) : ¬ Is x y := fun k => by rw [sameF_is k] at h; cases h
theorem sameF_yes {x y : Nat} (h : sameF x y = true) : Is x y := by
  unfold sameF at h
  rw [decide_eq_true_eq] at h
  rcases h with h | ⟨h1, h2, rfl⟩
  · exact .inl h
  · exact Is.refl _
theorem plF_is {x y : Nat} (h : Is x y) : plF x = plF y := by
  rcases h with ⟨h1, h2⟩ | ⟨rfl, _⟩
  · unfold plF; rw [if_pos h1, if_pos h2]
  · rfl
theorem sbit_walk (x : Nat) (hx : x < 2 ^ 64) (w : World) : Calls Try.prog 76 #[.float .f64 x] w (fun e w' => e = .returned (.bool (sgn x)) ∧ w = w') := by
  by_cases c : x < 9223372036854775808
  · have e1 : IntKind.i64.wrap (x : Int) = (x : Int) := IntWalk.i64_in _ (by omega)
    have e2 : ¬ (x : Int) < 0 := by omega
    have e3 : Hid (sgn x = false) := Lib.hid (by unfold sgn SGN; rw [beq_eq_false_iff_ne]; omega)
    clear c
    go_enter Try.func76, Try.ntmps76
    go_wp2_with fail
    go_ret
    exact ⟨by rw [e3.out]; rfl, rfl⟩
  · have e1 : IntKind.i64.wrap (x : Int) = (x : Int) - 18446744073709551616 := by
      unfold IntKind.wrap
      have h1 : (x : Int) % 2 ^ IntKind.i64.bits = x := by simp only [IntKind.bits]; omega
      simp only [h1]
      rw [if_pos (by simp [IntKind.bits, IntKind.signed]; omega)]
      simp only [IntKind.bits]; omega
    have e2 : (x : Int) - 18446744073709551616 < 0 := by omega
    have e3 : Hid (sgn x = true) := Lib.hid (by unfold sgn SGN; rw [beq_iff_eq]; omega)
    clear c
    go_enter Try.func76, Try.ntmps76
    go_wp2_with fail
    go_ret
    exact ⟨by rw [e3.out]; rfl, rfl⟩
theorem cmp_lt {a b : Nat} (h : a < b) : cmpN a b = -1 := by unfold cmpN; rw [if_pos h]
theorem cmp_gt {a b : Nat} (h : b < a) : cmpN a b = 1 := by unfold cmpN; rw [if_neg (by omega), if_pos h]
theorem cmp_eq {a b : Nat} (h : a = b) : cmpN a b = 0 := by unfold cmpN; rw [if_neg (by omega), if_neg (by omega)]
theorem pl_ltn {x : Nat} (hx : x < 2 ^ 64) (h : ¬ Nan x) : plF x < 18446744073709551615 := by
  have := pl_le hx
  have : plF x ≠ 18446744073709551615 := fun e => h ((pl_nan hx).1 e)
  omega
set_option maxRecDepth 100000 in
theorem rplace_walk (x y : Nat) (hx : x < 2 ^ 64) (hy : y < 2 ^ 64) (w : World) : Calls Try.prog 69 #[.float .f64 x, .float .f64 y] w (fun e w' => e = .returned (.int .i64 (cmpN (plF x) (plF y))) ∧ w = w') := by
  have q1 := ne_self x
  have q2 := ne_self y
  have SB := Lib.hid (sbit_walk x hx)
  by_cases hs : sameF x y = true
  · have E : Hid (cmpN (plF x) (plF y) = 0) := Lib.hid (cmp_eq (plF_is (sameF_yes hs)))
    clear q1 q2 SB
    go_enter Try.func69, Try.ntmps69
    go_wp2_with (go_at_call 34; refine (samefloat_walk x y _).mono ?_; rintro e w' ⟨rfl, rfl⟩; rw [hs])
    go_ret
    exact ⟨by rw [E.out]; rfl, rfl⟩
  · have hs : sameF x y = false := by simpa using hs
    have ni := sameF_no hs
    by_cases nx : Nan x
    · have ny : ¬ Nan y := fun q => ni (.inl ⟨nx, q⟩)
      have E : Hid (cmpN (plF x) (plF y) = 1) := Lib.hid (cmp_gt (by rw [(pl_nan hx).2 nx]; exact pl_ltn hy ny))
      rw [decide_eq_true nx] at q1
      clear q2 SB ni nx ny
      go_enter Try.func69, Try.ntmps69
      go_wp2_with (go_at_call 34; refine (samefloat_walk x y _).mono ?_; rintro e w' ⟨rfl, rfl⟩; rw [hs])
      go_ret
      exact ⟨by rw [E.out]; rfl, rfl⟩
    · rw [decide_eq_false nx] at q1
      by_cases ny : Nan y
      · have E : Hid (cmpN (plF x) (plF y) = -1) := Lib.hid (cmp_lt (by rw [(pl_nan hy).2 ny]; exact pl_ltn hx nx))
        rw [decide_eq_true ny] at q2
        clear SB ni nx ny
        go_enter Try.func69, Try.ntmps69
        go_wp2_with (go_at_call 34; refine (samefloat_walk x y _).mono ?_; rintro e w' ⟨rfl, rfl⟩; rw [hs])
        go_ret
        exact ⟨by rw [E.out]; rfl, rfl⟩
      · rw [decide_eq_false ny] at q2
        cases h1 : (FloatKind.f64.format.order x y == some Ordering.lt) with
        | true =>
          have E : Hid (cmpN (plF x) (plF y) = -1) := Lib.hid (cmp_lt (pl_lt hx hy nx ny (clt_iff.1 h1).2.2))
          clear SB ni nx ny
          go_enter Try.func69, Try.ntmps69
          go_wp2_with (go_at_call 34; refine (samefloat_walk x y _).mono ?_; rintro e w' ⟨rfl, rfl⟩; rw [hs])
          go_ret
          exact ⟨by rw [E.out]; rfl, rfl⟩
        | false =>
          cases h2 : (FloatKind.f64.format.order y x == some Ordering.lt) with
          | true =>
            have E : Hid (cmpN (plF x) (plF y) = 1) := Lib.hid (cmp_gt (pl_lt hy hx ny nx (clt_iff.1 h2).2.2))
            clear SB ni nx ny
            go_enter Try.func69, Try.ntmps69
            go_wp2_with (go_at_call 34; refine (samefloat_walk x y _).mono ?_; rintro e w' ⟨rfl, rfl⟩; rw [hs])
            go_ret
            exact ⟨by rw [E.out]; rfl, rfl⟩
          | false =>
            have ee : ev x = ev y := by
              have a : ¬ ev x < ev y := fun q => by have : clt x y = true := clt_iff.2 ⟨nx, ny, q⟩; unfold clt at this; rw [fmt64] at h1; rw [h1] at this; cases this
              have b : ¬ ev y < ev x := fun q => by have : clt y x = true := clt_iff.2 ⟨ny, nx, q⟩; unfold clt at this; rw [fmt64] at h2; rw [h2] at this; cases this
              grind
            have es : sgn x ≠ sgn y := fun q => ni (.inr ⟨word_inj hx hy ee q, nx⟩)
            cases sx : sgn x with
            | true =>
              have sy : sgn y = false := by cases e : sgn y with | false => rfl | true => exact absurd (sx.trans e.symm) es
              have E : Hid (cmpN (plF x) (plF y) = -1) := Lib.hid (cmp_lt (by
                rw [pl_sgn hx, pl_sgn hy, if_neg nx, if_neg ny, if_pos sx, sy, if_neg (by decide)]; omega))
              rw [sx] at SB
              clear ni nx ny ee es sx sy
              go_enter Try.func69, Try.ntmps69
              go_wp2_with (first | (go_at_call 34; refine (samefloat_walk x y _).mono ?_; rintro e w' ⟨rfl, rfl⟩; rw [hs]) | (go_at_call 76; refine (SB.out _).mono ?_; rintro e w' ⟨rfl, rfl⟩))
              go_ret
              exact ⟨by rw [E.out]; rfl, rfl⟩
            | false =>
              have sy : sgn y = true := by cases e : sgn y with | true => rfl | false => exact absurd (sx.trans e.symm) es
              have E : Hid (cmpN (plF x) (plF y) = 1) := Lib.hid (cmp_gt (by
                rw [pl_sgn hx, pl_sgn hy, if_neg nx, if_neg ny, if_pos sy, sx, if_neg (by decide)]; omega))
              rw [sx] at SB
              clear ni nx ny ee es sx sy
              go_enter Try.func69, Try.ntmps69
              go_wp2_with (first | (go_at_call 34; refine (samefloat_walk x y _).mono ?_; rintro e w' ⟨rfl, rfl⟩; rw [hs]) | (go_at_call 76; refine (SB.out _).mono ?_; rintro e w' ⟨rfl, rfl⟩))
              go_ret
              exact ⟨by rw [E.out]; rfl, rfl⟩
theorem pw_cmp {x y : Nat} (hx : x < 2 ^ 64) (hy : y < 2 ^ 64) (nx : ¬ Nan x) (ny : ¬ Nan y) : cmpN (plF y) (plF x) = cmpN (powF x) (powF y) := by
  have a := pl_le hx
  have b := pl_le hy
  unfold powF
  rw [if_neg nx, if_neg ny]
  unfold cmpN
  by_cases h1 : plF y < plF x
  · rw [if_pos h1, if_pos (by omega)]
  · by_cases h2 : plF x < plF y
    · rw [if_neg h1, if_pos h2, if_neg (by omega), if_pos (by omega)]
    · rw [if_neg h1, if_neg h2, if_neg (by omega), if_neg (by omega)]
theorem pw_cmpn {x y : Nat} (hx : x < 2 ^ 64) (hy : y < 2 ^ 64) (h : Nan x ∨ Nan y) : cmpN (plF x) (plF y) = cmpN (powF x) (powF y) := by
  by_cases nx : Nan x
  · by_cases ny : Nan y
    · rw [cmp_eq (by rw [(pl_nan hx).2 nx, (pl_nan hy).2 ny]), cmp_eq (by rw [(pw_nan hx).2 nx, (pw_nan hy).2 ny])]
    · have : powF y ≠ 18446744073709551615 := fun e => ny ((pw_nan hy).1 e)
      have l : powF y ≤ 18446744073709551615 := by unfold powF; split <;> omega
      rw [cmp_gt (by rw [(pl_nan hx).2 nx]; exact pl_ltn hy ny), cmp_gt (by rw [(pw_nan hx).2 nx]; omega)]
  · have ny : Nan y := h.resolve_left nx
    have : powF x ≠ 18446744073709551615 := fun e => nx ((pw_nan hx).1 e)
    have l : powF x ≤ 18446744073709551615 := by unfold powF; split <;> omega
    rw [cmp_lt (by rw [(pl_nan hy).2 ny]; exact pl_ltn hx nx), cmp_lt (by rw [(pw_nan hy).2 ny]; omega)]
theorem rpower_walk (x y : Nat) (hx : x < 2 ^ 64) (hy : y < 2 ^ 64) (w : World) : Calls Try.prog 68 #[.float .f64 x, .float .f64 y] w (fun e w' => e = .returned (.int .i64 (cmpN (powF x) (powF y))) ∧ w = w') := by
  have q1 := ne_self x
  have q2 := ne_self y
  have P1 := Lib.hid (rplace_walk x y hx hy)
  have P2 := Lib.hid (rplace_walk y x hy hx)
  by_cases nx : Nan x
  · rw [pw_cmpn hx hy (.inl nx)] at P1
    rw [decide_eq_true nx] at q1
    clear q2 P2 nx
    go_enter Try.func68, Try.ntmps68
    go_wp2_with (go_at_call 69; refine (P1.out _).mono ?_; rintro e w' ⟨rfl, rfl⟩)
    go_ret
    exact ⟨rfl, rfl⟩
  · rw [decide_eq_false nx] at q1
    by_cases ny : Nan y
    · rw [pw_cmpn hx hy (.inr ny)] at P1
      rw [decide_eq_true ny] at q2
      clear P2 nx ny
      go_enter Try.func68, Try.ntmps68
      go_wp2_with (go_at_call 69; refine (P1.out _).mono ?_; rintro e w' ⟨rfl, rfl⟩)
      go_ret
      exact ⟨rfl, rfl⟩
    · rw [pw_cmp hx hy nx ny] at P2
      rw [decide_eq_false ny] at q2
      clear P1 nx ny
      go_enter Try.func68, Try.ntmps68
      go_wp2_with (go_at_call 69; refine (P2.out _).mono ?_; rintro e w' ⟨rfl, rfl⟩)
      go_ret
      exact ⟨rfl, rfl⟩
end Go.Proofs.Ytdngkeefbpffcaa
