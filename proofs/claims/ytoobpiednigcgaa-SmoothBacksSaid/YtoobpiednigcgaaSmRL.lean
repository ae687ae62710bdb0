import Derived.Test.YtoobpiednigcgaaSmO
set_option autoImplicit false
set_option linter.unusedVariables false
namespace Go.Proofs.Ytoobpiednigcgaa
open Go.RowKit Lk
theorem isfin_b (v V : Nat) (b : Bool) (h : Is v V) (hb : decide (Lk.Fin V) = b) (w : World) : Calls Try.prog 34 #[.float .f64 v] w (fun e w' => e = .returned (.bool b) ∧ w = w') := by
  refine (isfin_walk v w).mono ?_
  rintro e w' ⟨rfl, rfl⟩
  refine ⟨ret_bool ?_, rfl⟩
  rw [← hb]
  simp [is_fin h]
set_option maxHeartbeats 4000000 in
theorem rline_walk (a a' : Option Addr) (N M c c' : Nat) (t x : List Nat) (w : World) (s : Fs w a N c t) (s' : Fs w a' M c' x) :
    Calls Try.prog 16 #[.slice a N c, .slice a' M c'] w (fun e w' => e = .returned (.tuple #[.float .f64 (lineR t x).1, .float .f64 (lineR t x).2.1, .int .i64 (lineR t x).2.2]) ∧ Below w.heap.size w w') := by
  obtain ⟨I, hi, hz, hsz, hby⟩ := info_parts flt_info
  have n63 : N ≤ 9223372036854775807 := Nat.le_trans s.le s.small
  have m63 : M ≤ 9223372036854775807 := Nat.le_trans s'.le s'.small
  have S := Lib.hid (And.intro s s')
  have lt := s.len
  have lx := s'.len
  have LT := Lib.hid lt
  have LX := Lib.hid lx
  have R0 : lineE t x = if N ≠ M then 5 else if 1024 < N then 3 else if N < 2 then 2 else if !(finL t && finL x) then 6
    else if ceq (addL (sqL t)) 0 then 6 else if !(decide (Lk.Fin (lineS t x)) && decide (Lk.Fin (lineA t x))) then 6 else 0 := by
    unfold lineE; rw [lt, lx]
  clear lt lx s s'
  by_cases h1 : N = M
  · subst h1
    rw [if_neg (by simp)] at R0
    by_cases h2 : 1024 < N
    · have E : Hid (lineR t x = (0, 0, 3)) := Lib.hid (by rw [if_pos h2] at R0; unfold lineR; rw [R0, if_neg (by decide)])
      clear R0
      go_enter Try.func16, Try.ntmps16
      go_wp2_with fail
      go_ret3
      exact ⟨ret_line E.out, Below.refl _ _⟩
    · rw [if_neg h2] at R0
      by_cases h3 : N < 2
      · have E : Hid (lineR t x = (0, 0, 2)) := Lib.hid (by rw [if_pos h3] at R0; unfold lineR; rw [R0, if_neg (by decide)])
        clear R0
        go_enter Try.func16, Try.ntmps16
        go_wp2_with fail
        go_ret3
        exact ⟨ret_line E.out, Below.refl _ _⟩
      · rw [if_neg h3] at R0
        have I1 := finite_walk a N c t w S.out.1
        have I2 := finite_walk a' N c' x w S.out.2
        cases h4 : finL t with
        | false =>
          rw [h4] at I1
          have E : Hid (lineR t x = (0, 0, 6)) := Lib.hid (by rw [h4] at R0; unfold lineR; rw [R0]; rfl)
          clear R0 h4 I2
          go_enter Try.func16, Try.ntmps16
          go_wp2_with fail
          refine I1.mono ?_; rintro e w' ⟨rfl, rfl⟩
          go_wp2_with fail
          go_ret3
          exact ⟨ret_line E.out, Below.refl _ _⟩
        | true =>
          rw [h4] at I1
          cases h5 : finL x with
          | false =>
            rw [h5] at I2
            have E : Hid (lineR t x = (0, 0, 6)) := Lib.hid (by rw [h4, h5] at R0; unfold lineR; rw [R0]; rfl)
            clear R0 h4 h5
            go_enter Try.func16, Try.ntmps16
            go_wp2_with fail
            refine I1.mono ?_; rintro e w' ⟨rfl, rfl⟩
            go_wp2_with fail
            refine I2.mono ?_; rintro e w' ⟨rfl, rfl⟩
            go_wp2_with fail
            go_ret3
            exact ⟨ret_line E.out, Below.refl _ _⟩
          | true =>
            rw [h5] at I2
            rw [h4, h5] at R0
            have R := Lib.hid R0
            clear R0 h4 h5
            go_enter Try.func16, Try.ntmps16
            go_wp2_with fail
            refine I1.mono ?_; rintro e w' ⟨rfl, rfl⟩
            go_wp2_with fail
            refine I2.mono ?_; rintro e w' ⟨rfl, rfl⟩
            clear I1 I2
            go_wp2_with fail
            refine (floats_walk a N c t t w S.out.1 (by omega) LT.out (Pw.refl t)).mono ?_; rintro e w1 ⟨v1, rfl, hv1, b1⟩
            have B1 := Lib.hid b1
            clear b1
            go_wp2_with (((with_reducible refine wpList_float (x := ?_) (y := ?_) (X := ?_) (Y := ?_) rfl rfl ?_ ?_ ?_ ?_ ?_ ?_); (· rfl); (rotate_left 4); (· rfl); (· rfl); (· first | assumption | exact Is.refl _); (· first | assumption | exact Is.refl _); intro v n hv hl); revert v n hv hl; intro m1 k1 hm1 lm1)
            refine calls_forget (fun w2 => Below w.heap.size w w2) (below_drewN B1.out _) ?_
            intro w2 b2
            have B2 := Lib.hid b2
            have M1 := Lib.hid (show Is m1 (mean t) by unfold mean; rw [LT.out]; exact hm1)
            clear B1 hm1 hv1 b2
            refine (floats_walk a' N c' x x w2 (S.out.2.keep B2.out) (by omega) LX.out (Pw.refl x)).mono ?_; rintro e w3 ⟨v2, rfl, hv2, b3⟩
            have B3 := Lib.hid (B2.out.trans (b3.mono B2.out.size))
            clear b3
            go_wp2_with (((with_reducible refine wpList_float (x := ?_) (y := ?_) (X := ?_) (Y := ?_) rfl rfl ?_ ?_ ?_ ?_ ?_ ?_); (· rfl); (rotate_left 4); (· rfl); (· rfl); (· first | assumption | exact Is.refl _); (· first | assumption | exact Is.refl _); intro v n hv hl); revert v n hv hl; intro m2 k2 hm2 lm2)
            have M2 := Lib.hid (show Is m2 (mean x) by unfold mean; rw [LX.out]; exact hm2)
            clear hm2 hv2
            refine wp_forget (fun w4 => Below w.heap.size w w4) (below_drewN B3.out _) ?_
            intro w4 b4
            have B4 := Lib.hid b4
            clear B3 b4 B2
            go_loopw [10, 11, 12] (fun q r i wr => ∃ (k : Nat) (A B : List Nat), k ≤ N ∧ i = .int .i64 k ∧ RL w wr q r k k A B t x) (fun _ _ i _ => N - (intOf i).toNat)
            case atStart => exact ⟨0, [], [], by omega, rfl, World.ownsRow_nil _ _ _ _, World.ownsRow_nil _ _ _ _, .inl rfl, (fun z hz => by cases hz), (fun z hz => by cases hz), (fun j y Y h => by cases h), (fun j y Y h => by cases h), B4.out⟩
            case round =>
              clear B4
              obtain ⟨k, A, B, hk, rfl, hrl⟩ := hrel
              have RR := Lib.hid hrl
              have zz := hrl.hb.size
              have hu23 := Try.und23
              clear hrl
              by_cases hlt : k < N
              · obtain ⟨b, off, y, rfl, hb0, hy, hc, ly⟩ := (S.out.1.keep RR.out.hb).at hlt
                obtain ⟨b', off', y', rfl, hb0', hy', hc', ly'⟩ := (S.out.2.keep RR.out.hb).at hlt
                have HY := Lib.hid hy
                have HY' := Lib.hid hy'
                have i1 := M1.out
                have i2 := M2.out
                clear hy hy'
                have HS := Lib.hid (sqL_some HY.out)
                have HP := Lib.hid (prL_some HY.out HY'.out)
                go_wp2_with (first
                  | ((with_reducible refine wpList_float (x := ?_) (y := ?_) (X := ?_) (Y := ?_) rfl rfl ?_ ?_ ?_ ?_ ?_ ?_); (· rfl); (rotate_left 4); (· rfl); (· rfl); (· first | assumption | exact Is.refl _); (· first | assumption | exact Is.refl _); intro v n hv hl)
                  | (refine Go.wpList_append_own_at _ rfl (.tmp 66) (.tmp 70) 23 rfl w.heap.size 24 I _ 1 8 Try.und23 hi hz hsz hby rfl (by decide) _ k (fls A) rfl (ownsD (RR.out.o1.alloc _) _) ⟨wr.heap.size, 0, none⟩ 1 1 [.float .f64 v] rfl rfl (new1 wr _ _ _) (one1 rfl) (by simp only [maxLen]; omega) (by omega) (by simp [World.drewN]; omega) ?_; intro q5 w5 ow5 gr5 _ at5; have R5 := Lib.hid (RR.out.app1 ow5 gr5 at5 hl HS.out hv); have z5 := R5.out.hb.size; clear ow5 gr5 at5)
                  | (refine Go.wpList_append_own_at _ rfl (.tmp 72) (.tmp 76) 23 rfl w.heap.size 24 I _ 1 8 Try.und23 hi hz hsz hby rfl (by decide) _ k (fls B) rfl (ownsD (R5.out.o2.alloc _) _) ⟨w5.heap.size, 0, none⟩ 1 1 [.float .f64 v] rfl rfl (new1 w5 _ _ _) (one1 rfl) (by simp only [maxLen]; omega) (by omega) (by simp [World.drewN]; omega) ?_; intro r5 w6 ow6 gr6 _ at6; have R6 := Lib.hid (R5.out.app2 ow6 gr6 at6 hl HP.out hv); clear ow6 gr6 at6))
                go_roundw
                case rel => exact ⟨k + 1, _, _, by omega, by go_num, R6.out⟩
                case measure => simp [intOf]; omega
              · obtain rfl : k = N := by omega
                clear hu23 zz
                obtain ⟨a1, p1, rfl, f1⟩ := own_fs RR.out.o1 RR.out.l1
                obtain ⟨a2, p2, rfl, f2⟩ := own_fs RR.out.o2 RR.out.l2
                have F1 := Lib.hid f1
                have F2 := Lib.hid f2
                clear f1 f2
                go_wp2_with fail
                refine (floats_walk a1 k p1 A (sqL t) wr F1.out (by omega) (by rw [sqL, List.length_map]; exact LT.out) RR.out.e1).mono ?_; rintro e w5 ⟨v3, rfl, hv3, b5⟩
                have B5 := Lib.hid (RR.out.hb.trans (b5.mono RR.out.hb.size))
                have F2' := Lib.hid (F2.out.keep b5)
                have V3 := Lib.hid hv3
                have i1 := M1.out
                have i2 := M2.out
                clear b5 F1 F2 hv3
                cases h6 : ceq (addL (sqL t)) 0 with
                | true =>
                  have E : Hid (lineR t x = (0, 0, 6)) := Lib.hid (by have r := R.out; rw [h6] at r; unfold lineR; rw [r]; rfl)
                  have q : (FloatKind.f64.format.order v3 0 == some Ordering.eq) = true := (ceq_is V3.out (Is.refl 0)).trans h6
                  clear h6
                  go_wp2_with fail
                  go_ret3
                  exact ⟨ret_line E.out, B5.out⟩
                | false =>
                  have R' := Lib.hid (show lineE t x = if !(decide (Lk.Fin (lineS t x)) && decide (Lk.Fin (lineA t x))) then 6 else 0 by have r := R.out; rw [h6] at r; exact r)
                  have q : (FloatKind.f64.format.order v3 0 == some Ordering.eq) = false := (ceq_is V3.out (Is.refl 0)).trans h6
                  clear h6 R
                  go_wp2_with fail
                  refine (floats_walk a2 k p2 B (prL t x) w5 F2'.out (by omega) (by rw [prL, List.length_map, List.length_zip, LT.out, LX.out, Nat.min_self]) RR.out.e2).mono ?_; rintro e w6 ⟨v4, rfl, hv4, b6⟩
                  have B6 := Lib.hid (B5.out.trans (b6.mono B5.out.size))
                  have i3 := V3.out
                  clear b6 F2' q
                  cases h7 : decide (Lk.Fin (lineS t x)) with
                  | true =>
                    cases h8 : decide (Lk.Fin (lineA t x)) with
                    | true =>
                      have G7 := Lib.hid h7
                      have G8 := Lib.hid h8
                      clear h7 h8
                      go_wp2_with ((with_reducible refine wpList_float (x := ?_) (y := ?_) (X := ?_) (Y := ?_) rfl rfl ?_ ?_ ?_ ?_ ?_ ?_); (· rfl); (rotate_left 4); (· rfl); (· rfl); (· first | assumption | exact Is.refl _); (· first | assumption | exact Is.refl _); intro v n hv hl)
                      have ha : Is v (lineA t x) := hv
                      have hs : Is _ (lineS t x) := ‹Is _ (fop BinOp.quo (addL (prL t x)) (addL (sqL t)))›
                      refine (isfin_b _ (lineS t x) true hs G7.out _).mono ?_; rintro e w' ⟨rfl, rfl⟩
                      have EA := Lib.hid (ha.eq (of_decide_eq_true G8.out).not_nan)
                      have ES := Lib.hid (hs.eq (of_decide_eq_true G7.out).not_nan)
                      have HA := Lib.hid ha
                      clear ha hs i1 i2 i3 hv4
                      go_wp2_with fail
                      refine (isfin_b _ (lineA t x) true HA.out G8.out _).mono ?_; rintro e w' ⟨rfl, rfl⟩
                      have E : Hid (lineR t x = (lineA t x, lineS t x, 0)) := Lib.hid (by have r := R'.out; rw [G7.out, G8.out] at r; unfold lineR; rw [r]; rfl)
                      go_wp2_with fail
                      go_ret3
                      exact ⟨ret_line (by rw [E.out, ← EA.out, ← ES.out]), below_drewN B6.out _⟩
                    | false =>
                      have G7 := Lib.hid h7
                      have G8 := Lib.hid h8
                      have E : Hid (lineR t x = (0, 0, 6)) := Lib.hid (by have r := R'.out; rw [h7, h8] at r; unfold lineR; rw [r]; rfl)
                      clear h7 h8
                      go_wp2_with ((with_reducible refine wpList_float (x := ?_) (y := ?_) (X := ?_) (Y := ?_) rfl rfl ?_ ?_ ?_ ?_ ?_ ?_); (· rfl); (rotate_left 4); (· rfl); (· rfl); (· first | assumption | exact Is.refl _); (· first | assumption | exact Is.refl _); intro v n hv hl)
                      have ha : Is v (lineA t x) := hv
                      have hs : Is _ (lineS t x) := ‹Is _ (fop BinOp.quo (addL (prL t x)) (addL (sqL t)))›
                      refine (isfin_b _ (lineS t x) true hs G7.out _).mono ?_; rintro e w' ⟨rfl, rfl⟩
                      have HA := Lib.hid ha
                      clear ha hs i1 i2 i3 hv4
                      go_wp2_with fail
                      refine (isfin_b _ (lineA t x) false HA.out G8.out _).mono ?_; rintro e w' ⟨rfl, rfl⟩
                      go_wp2_with fail
                      go_ret3
                      exact ⟨ret_line E.out, below_drewN B6.out _⟩
                  | false =>
                    have G7 := Lib.hid h7
                    have E : Hid (lineR t x = (0, 0, 6)) := Lib.hid (by have r := R'.out; rw [h7] at r; unfold lineR; rw [r]; rfl)
                    clear h7
                    go_wp2_with ((with_reducible refine wpList_float (x := ?_) (y := ?_) (X := ?_) (Y := ?_) rfl rfl ?_ ?_ ?_ ?_ ?_ ?_); (· rfl); (rotate_left 4); (· rfl); (· rfl); (· first | assumption | exact Is.refl _); (· first | assumption | exact Is.refl _); intro v n hv hl)
                    have hs : Is _ (lineS t x) := ‹Is _ (fop BinOp.quo (addL (prL t x)) (addL (sqL t)))›
                    refine (isfin_b _ (lineS t x) false hs G7.out _).mono ?_; rintro e w' ⟨rfl, rfl⟩
                    clear hs i1 i2 i3 hv4
                    go_wp2_with fail
                    go_ret3
                    exact ⟨ret_line E.out, below_drewN B6.out _⟩
  · have E : Hid (lineR t x = (0, 0, 5)) := Lib.hid (by rw [if_pos h1] at R0; unfold lineR; rw [R0, if_neg (by decide)])
    have h2 : ¬ (N : Int) = M := by omega
    clear R0
    go_enter Try.func16, Try.ntmps16
    go_wp2_with fail
    go_ret3
    exact ⟨ret_line E.out, Below.refl _ _⟩
end Go.Proofs.Ytoobpiednigcgaa
