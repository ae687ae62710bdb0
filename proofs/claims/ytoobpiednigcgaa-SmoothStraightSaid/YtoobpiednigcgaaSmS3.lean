import Derived.Test.YtoobpiednigcgaaSmS2
import Derived.Test.YtoobpiednigcgaaSmV4
set_option autoImplicit false
set_option linter.unusedVariables false
namespace Go.Proofs.Ytoobpiednigcgaa
open Go.RowKit Lk
theorem turns_in' (f : FuncId) (l : List Nat) (R : Int) (args : Array Value) (w : World) (t x : List Nat) (m : Nat) (hl : l = turnsR t x m) (hR : R = turnsE t x m) (h : Calls Try.prog f args w (TurnsP t x m w)) :
    Calls Try.prog f args w (fun e w' => ∃ b q, e = .returned (.tuple #[.slice b l.length q, .int .i64 R]) ∧ Below w.heap.size w w') := by
  refine h.mono ?_
  rintro e w' ⟨v, rfl, ow, hb⟩
  obtain ⟨b, q, rfl, hi⟩ := own_is ow
  subst hl hR
  exact ⟨b, q, rfl, hb⟩
set_option maxRecDepth 100000 in
set_option maxHeartbeats 4000000 in
theorem str_yes (a b c h n : Int) (w : World) (sa : -1024 < a ∧ a < 1024) (sb : -1024 < b ∧ b < 1024) (sc : -1024 < c ∧ c < 1024) (sh : -1024 < h ∧ h < 1024) (g0 : h ≠ 0) (g1 : 3 ≤ n) (g2 : n ≤ 99) (g3 : ¬ n.tmod 2 = 0) :
    Calls Try.prog 5 #[.int .i64 a, .int .i64 b, .int .i64 c, .int .i64 h, .int .i64 n] w (Tru w) := by
  have Sa := Lib.hid (decide_eq_true sa).symm
  have Sb := Lib.hid (decide_eq_true sb).symm
  have Sc := Lib.hid (decide_eq_true sc).symm
  have Sh := Lib.hid (decide_eq_true sh).symm
  have SA := Lib.hid sa
  have SB := Lib.hid sb
  have SC := Lib.hid sc
  have SH := Lib.hid sh
  clear sa sb sc sh
  have e1 : (h == 0) = false := by simpa using g0
  have e2 : (n % 2 == 0) = false := by rw [Int.tmod_eq_emod_of_nonneg (by omega)] at g3; simpa using g3
  clear g0 g3
  go_enter Try.func5, Try.ntmps5
  go_wp2_with fail
  refine (works_walk _).mono ?_
  rintro e w1 ⟨rfl, b1⟩
  have B1 := Lib.hid b1
  clear b1
  go_wp2_with fail
  refine (small_walk _ true Sa.out _).mono ?_; rintro e w' ⟨rfl, rfl⟩
  go_wp2_with fail
  refine (small_walk _ true Sb.out _).mono ?_; rintro e w' ⟨rfl, rfl⟩
  go_wp2_with fail
  refine (small_walk _ true Sc.out _).mono ?_; rintro e w' ⟨rfl, rfl⟩
  go_wp2_with fail
  refine (small_walk _ true Sh.out _).mono ?_; rintro e w' ⟨rfl, rfl⟩
  clear Sa Sb Sc Sh
  go_wp2_with fail
  go_loopw [64, 11, 12, 13] (fun i s1 s2 s3 wr => ∃ k : Nat, (k : Int) ≤ n ∧ i = .int .i64 k ∧ R3 w1 wr s1 s2 s3 k k k (tL a h k) (xL a b c h k) (yL a b c h k)) (fun i _ _ _ _ => n.toNat - (intOf i).toNat)
  case atStart => exact ⟨0, by omega, rfl, R3.start w1⟩
  case round =>
    obtain ⟨k, hk, rfl, hr⟩ := hrel
    have R := Lib.hid hr
    clear hr
    obtain ⟨p1, q1, rfl⟩ := own_form R.out.o1
    obtain ⟨p2, q2, rfl⟩ := own_form R.out.o2
    obtain ⟨p3, q3, rfl⟩ := own_form R.out.o3
    by_cases hlt : (k : Int) < n
    · have K1 : Int.natAbs k ≤ 99 := by omega
      have P1 := abs_mul_le (x := (k : Int)) (y := h) (A := 99) (B := 1023) (by omega) (by have := SH.out; omega)
      have P2 := abs_mul_le (x := c) (y := a + (k : Int) * h) (A := 1023) (B := 102300) (by have := SC.out; omega) (by have := SA.out; omega)
      have P3 : -101277 ≤ (k : Int) * h := by omega
      have P4 : (k : Int) * h ≤ 101277 := by omega
      have P5 : -104652900 ≤ c * (a + (k : Int) * h) := by omega
      have P6 : c * (a + (k : Int) * h) ≤ 104652900 := by omega
      have P7 := SA.out
      have P8 := SB.out
      have Z := R.out.b.size
      clear P1 P2 K1
      have NG := neg_fneg (xw a b c h k) (V.ofInt (by omega)).2.1
      unfold xw at NG
      go_wp2_with (first
        | (refine wpList_append_x_at rfl (.tmp 67) (.tmp 74) rfl w1.heap.size _ k _ rfl (R.out.o1.alloc _) rfl (Deep.blk_alloc_new wr _) (by omega) (by simp; omega) ?_; intro g1 c1 w2 ow gr hp; have R2 := Lib.hid (R.out.grow _ ow gr hp).rot; have Z2 := R2.out.b.size; clear ow gr hp)
        | (refine wpList_append_x_at rfl (.tmp 76) (.tmp 87) rfl w1.heap.size _ k _ rfl (R2.out.o1.alloc _) rfl (Deep.blk_alloc_new w2 _) (by omega) (by simp; omega) ?_; intro g3 c3 w3 ow gr hp; have R4 := Lib.hid (R2.out.grow _ ow gr hp).rot; have Z3 := R4.out.b.size; clear ow gr hp)
        | (refine wpList_append_x_at rfl (.tmp 89) (.tmp 101) rfl w1.heap.size _ k _ rfl (R4.out.o1.alloc _) rfl (Deep.blk_alloc_new w3 _) (by omega) (by simp; omega) ?_; intro g5 c5 w5 ow gr hp; have R5 := Lib.hid (R4.out.grow _ ow gr hp).rot; clear ow gr hp))
      go_roundw
      case rel =>
        refine ⟨k + 1, by omega, by go_num, ?_⟩
        have e1 : tL a h (k + 1) = tL a h k ++ [tw a h k] := range_snoc _ _
        have e2 : xL a b c h (k + 1) = xL a b c h k ++ [xw a b c h k] := range_snoc _ _
        have e3 : yL a b c h (k + 1) = yL a b c h k ++ [fneg (xw a b c h k)] := range_snoc _ _
        rw [e1, e2, e3]
        unfold xw tw
        exact R5.out
      case measure => simp [intOf]; omega
    · obtain rfl : n = (k : Int) := by omega
      have hodd : k % 2 = 1 := by have := of_decide_eq_false (by simpa using e2 : decide ((k : Int) % 2 = 0) = false); omega
      obtain ⟨p, rfl⟩ : ∃ p, k = 2 * p + 1 := ⟨k / 2, by omega⟩
      have S : Sm a b c h p := ⟨by omega, by omega, by have := SA.out; omega, by have := SB.out; omega, by have := SC.out; omega, by have := SH.out; omega, by simpa using e1⟩
      clear e1 e2 hodd hlt hk
      obtain ⟨A, D, E, T⟩ := S.told
      obtain ⟨_, _, hv, f1⟩ := own_fs R.out.o1 S.tlt
      cases hv
      obtain ⟨_, _, hv, f2⟩ := own_fs R.out.o2 S.xlt
      cases hv
      obtain ⟨_, _, hv, f3⟩ := own_fs R.out.o3 S.ylt
      cases hv
      have L1 := fun (w : World) (h1 : Fs w p1 (2 * p + 1) q1 (tL a h (2 * p + 1))) (h2 : Fs w p2 (2 * p + 1) q2 (xL a b c h (2 * p + 1))) => line_walk _ _ _ _ _ _ _ _ w h1 h2
      have L2 := fun (w : World) (h1 : Fs w p1 (2 * p + 1) q1 (tL a h (2 * p + 1))) (h2 : Fs w p3 (2 * p + 1) q3 (yL a b c h (2 * p + 1))) => line_walk _ _ _ _ _ _ _ _ w h1 h2
      rw [T.lx] at L1
      rw [T.ly] at L2
      have T1 := fun (w : World) (h1 : Fs w p1 (2 * p + 1) q1 (tL a h (2 * p + 1))) (h2 : Fs w p2 (2 * p + 1) q2 (xL a b c h (2 * p + 1))) => turns_in' 18 [] (if h < 0 then 2 else 0) _ w _ _ 0 S.wx.tR.symm S.wx.tE.symm (turns_walk _ _ _ _ _ _ _ _ _ w h1 h2)
      simp only at L1 L2
      have L1 := Lib.hid L1
      have L2 := Lib.hid L2
      have T1 := Lib.hid T1
      have n1 := neg_fneg A T.al
      have n2 := neg_fneg (floatOfInt .f64 c) (V.ofInt (by have := S.hc; omega)).2.1
      have q1 := T.q1
      have q2 := T.q2
      have q3 := T.q3
      rw [← n1] at q2
      rw [← n2] at q3
      have r1 : (FloatKind.f64.format.order A (floatOfInt .f64 b) == some Ordering.eq) = true := by rw [q1]; rfl
      have r2 : (FloatKind.f64.format.order D (Op.negFloat .f64 A) == some Ordering.eq) = true := by rw [q2]; rfl
      have r3 : (FloatKind.f64.format.order E (Op.negFloat .f64 (floatOfInt .f64 c)) == some Ordering.eq) = true := by rw [q3]; rfl
      have s1 : (FloatKind.f64.format.order A (floatOfInt .f64 b) != some Ordering.eq) = false := by rw [q1]; rfl
      have s2 : (FloatKind.f64.format.order D (Op.negFloat .f64 A) != some Ordering.eq) = false := by rw [q2]; rfl
      have s3 : (FloatKind.f64.format.order E (Op.negFloat .f64 (floatOfInt .f64 c)) != some Ordering.eq) = false := by rw [q3]; rfl
      have F1 := Lib.hid f1
      have F2 := Lib.hid f2
      have F3 := Lib.hid f3
      have BB := Lib.hid (B1.out.trans (R.out.b.mono B1.out.size))
      clear f1 f2 f3 n1 n2 T S SA SB SC SH R B1 q1 q2 q3
      go_wp2_with fail
      refine (L1.out _ F1.out F2.out).mono ?_
      rintro e w3 ⟨rfl, b3⟩
      have G1 := Lib.hid (F1.out.keep b3)
      have G2 := Lib.hid (F2.out.keep b3)
      have G3 := Lib.hid (F3.out.keep b3)
      have B3 := Lib.hid (BB.out.trans (b3.mono BB.out.size))
      clear b3 F1 F2 F3 BB L1
      go_wp2_with fail
      refine (L2.out _ G1.out G3.out).mono ?_
      rintro e w4 ⟨rfl, b4⟩
      have H1 := Lib.hid (G1.out.keep b4)
      have H2 := Lib.hid (G2.out.keep b4)
      have B4 := Lib.hid (B3.out.trans (b4.mono B3.out.size))
      clear b4 G1 G2 G3 B3 L2
      by_cases hn : h < 0
      · go_wp2_with fail
        have T2 := T1.out _ H1.out H2.out
        rw [if_pos hn] at T2
        refine T2.mono ?_
        rintro e w5 ⟨g, q, rfl, b5⟩
        have B5 := Lib.hid (B4.out.trans (b5.mono B4.out.size))
        clear b5 B4 T1 T2
        go_wp2_with fail
        go_ret
        exact ⟨rfl, B5.out⟩
      · go_wp2_with fail
        have T2 := T1.out _ H1.out H2.out
        rw [if_neg (by omega)] at T2
        refine T2.mono ?_
        rintro e w5 ⟨g, q, rfl, b5⟩
        have B5 := Lib.hid (B4.out.trans (b5.mono B4.out.size))
        clear b5 B4 T1 T2
        go_wp2_with fail
        go_ret
        exact ⟨rfl, B5.out⟩
end Go.Proofs.Ytoobpiednigcgaa
