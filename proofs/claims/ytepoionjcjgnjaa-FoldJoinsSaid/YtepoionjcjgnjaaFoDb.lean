import Derived.Test.YtepoionjcjgnjaaFoDa
import Derived.Lib.ItoaNum
set_option autoImplicit false
set_option linter.unusedVariables false
namespace Go.Proofs.Ytepoionjcjgnjaa
open Go.RowKit Lk Fo
theorem mulW (a b : Nat) (h : a * b < 18446744073709551616) : IntKind.u64.wrap ((a : Int) * (b : Int)) = ((a * b : Nat) : Int) := by rw [mulN, wrapN _ h]
theorem ret_u2e {a b : Int} (h : ∃ q : Int, Ending.returned (.tuple #[.int .u64 a, .int .u64 b]) = .returned (.tuple #[.int .u64 q, .int .u64 b])) : True := trivial
/-- the bits of the two words, moved up -/
theorem up_words {hi lo y s : Nat} (hh : hi < y) (hl : lo < 18446744073709551616) (hy : y ≤ 1099511627776) (hb : y * 2 ^ s < 18446744073709551616) (s1 : s ≤ 63) :
    ∃ U u1 u0 : Nat, bits .or .u64 (IntKind.u64.wrap ((hi : Int) * 2 ^ s)) ((lo : Int) / 2 ^ (64 - s)) = (U : Int) ∧ IntKind.u64.wrap ((lo : Int) * 2 ^ s) / 4294967296 = (u1 : Int) ∧ bits .and .u64 (IntKind.u64.wrap ((lo : Int) * 2 ^ s)) 4294967295 = (u0 : Int) ∧
      U < y * 2 ^ s ∧ u1 < 4294967296 ∧ u0 < 4294967296 ∧ (U * 4294967296 + u1) * 4294967296 + u0 = (hi * 18446744073709551616 + lo) * 2 ^ s := by
  have hp : 0 < 2 ^ s := Nat.two_pow_pos s
  have e64 : 2 ^ s * 2 ^ (64 - s) = 18446744073709551616 := by rw [← Nat.pow_add, show s + (64 - s) = 64 by omega]
  have hq : 0 < 2 ^ (64 - s) := Nat.two_pow_pos _
  have hhs : hi * 2 ^ s < 18446744073709551616 := Nat.lt_of_lt_of_le ((Nat.mul_lt_mul_right hp).2 hh) (Nat.le_of_lt hb)
  have c1 : ((hi : Int) * 2 ^ s) = ((hi * 2 ^ s : Nat) : Int) := by rw [Int.natCast_mul, Int.natCast_pow]; rfl
  have c2 : ((lo : Int) / 2 ^ (64 - s)) = ((lo / 2 ^ (64 - s) : Nat) : Int) := by rw [Int.natCast_ediv, Int.natCast_pow]; rfl
  have c3 : ((lo : Int) * 2 ^ s) = ((lo * 2 ^ s : Nat) : Int) := by rw [Int.natCast_mul, Int.natCast_pow]; rfl
  have d1 : lo / 2 ^ (64 - s) < 2 ^ s := by
    rw [Nat.div_lt_iff_lt_mul hq, e64]; exact hl
  have d2 : lo / 2 ^ (64 - s) * 18446744073709551616 + lo * 2 ^ s % 18446744073709551616 = lo * 2 ^ s := by
    have h1 : lo * 2 ^ s / 18446744073709551616 = lo / 2 ^ (64 - s) := by
      rw [← e64, Nat.mul_comm lo, Nat.mul_div_mul_left _ _ hp]
    have h2 := Nat.div_add_mod (lo * 2 ^ s) 18446744073709551616
    rw [h1] at h2
    omega
  rw [c1, c2, c3, wrapN _ hhs, wrapM]
  have hor : bits .or .u64 ((hi * 2 ^ s : Nat) : Int) ((lo / 2 ^ (64 - s) : Nat) : Int) = ((hi * 2 ^ s + lo / 2 ^ (64 - s) : Nat) : Int) := by
    have h := bits_or_u64_nat (hi * 2 ^ s) (lo / 2 ^ (64 - s)) hhs (Nat.lt_of_le_of_lt (Nat.div_le_self _ _) hl)
    rw [h, Nat.mul_comm hi, Nat.two_pow_add_eq_or_of_lt d1]
  have hUY : hi * 2 ^ s + lo / 2 ^ (64 - s) < y * 2 ^ s := by
    have := Nat.mul_le_mul_right (2 ^ s) (show hi + 1 ≤ y by omega)
    rw [Nat.add_mul] at this
    omega
  refine ⟨hi * 2 ^ s + lo / 2 ^ (64 - s), lo * 2 ^ s % 18446744073709551616 / 4294967296, lo * 2 ^ s % 18446744073709551616 % 4294967296, hor, by omega, maskN _ (by omega), hUY, by omega, by omega, ?_⟩
  rw [Nat.add_mul (hi * 18446744073709551616) lo]
  have h3 : hi * 18446744073709551616 * 2 ^ s = hi * 2 ^ s * 18446744073709551616 := by rw [Nat.mul_right_comm]
  rw [h3]
  have h5 := Nat.div_add_mod' (lo * 2 ^ s % 18446744073709551616) 4294967296
  rw [Nat.add_mul ((hi * 2 ^ s + lo / 2 ^ (64 - s)) * 4294967296), Nat.add_assoc, h5]
  clear h5 hor d1 c1 c2 c3 h3 hUY hhs
  generalize lo * 2 ^ s % 18446744073709551616 = MM at *
  generalize lo * 2 ^ s = PP at *
  generalize hi * 2 ^ s = AA at *
  generalize lo / 2 ^ (64 - s) = DD at *
  rw [Nat.mul_assoc, Nat.add_mul, Nat.add_assoc]
  show AA * 18446744073709551616 + (DD * 18446744073709551616 + MM) = _
  rw [d2]
theorem norm_shift {y : Nat} (h0 : 0 < y) (hy : y ≤ 1099511627776) : ∃ s : Nat, (64 - (Lib.bitLen (y : Int).toNat : Int)) = (s : Int) ∧ s ≤ 63 ∧ 9223372036854775808 ≤ y * 2 ^ s ∧ y * 2 ^ s < 18446744073709551616 := by
  have ht : (y : Int).toNat = y := Int.toNat_natCast y
  rw [ht]
  obtain ⟨b1, b2, b3⟩ := Go.Lib.bitLenAux_bounds 64 y (by omega) (by omega)
  have b4 : Lib.bitLen y ≤ 64 := Lib.bitLen_le y 64 (by omega) (by omega)
  have hb : Lib.bitLenAux 64 y = Lib.bitLen y := rfl
  rw [hb] at b1 b2 b3
  generalize Lib.bitLen y = b at *
  refine ⟨64 - b, by omega, by omega, ?_, ?_⟩
  · have := Nat.mul_le_mul_right (2 ^ (64 - b)) b2
    rw [← Nat.pow_add, show b - 1 + (64 - b) = 63 by omega] at this
    exact this
  · have := (Nat.mul_lt_mul_right (Nat.two_pow_pos (64 - b))).2 b3
    rw [← Nat.pow_add, show b + (64 - b) = 64 by omega] at this
    exact this
set_option maxRecDepth 100000 in
set_option maxHeartbeats 32000000 in
theorem div64_walk (hi lo y : Nat) (w : World) (hh : hi < y) (hl : lo < 18446744073709551616) (hy : y ≤ 1099511627776) (h0 : 0 < hi) :
    Calls Try.prog 39 #[.int .u64 hi, .int .u64 lo, .int .u64 y] w fun e w' => (∃ q : Int, e = .returned (.tuple #[.int .u64 q, .int .u64 (((hi * 18446744073709551616 + lo) % y : Nat) : Int)])) ∧ Below w.heap.size w w' := by
  have g1 : ¬ (y : Int) = 0 := by omega
  have g2 : ¬ (y : Int) ≤ (hi : Int) := by omega
  have g3 : ¬ (hi : Int) = 0 := by omega
  go_enter Try.func39, Try.ntmps39
  go_wp2_with fail
  refine (lz64_walk (y : Int) _ (by omega) (by omega)).mono ?_; rintro e w1 ⟨rfl, rfl⟩
  obtain ⟨s, hs0, hs1, hs2, hs3⟩ : ∃ s : Nat, (64 - (Lib.bitLen (y : Int).toNat : Int)) = (s : Int) ∧ s ≤ 63 ∧ 9223372036854775808 ≤ y * 2 ^ s ∧ y * 2 ^ s < 18446744073709551616 := norm_shift (by omega) hy
  rw [hs0]
  clear hs0
  obtain ⟨U, u1, u0, e1, e2, e3, l1, l2, l3, l4⟩ := up_words hh hl hy hs3 hs1
  have V4 := Lib.hid l4
  have YP : Hid (0 < y) := Lib.hid (by omega)
  have fY : IntKind.u64.wrap ((y : Int) * 2 ^ s) = ((y * 2 ^ s : Nat) : Int) := by
    rw [show ((y : Int) * 2 ^ s) = ((y * 2 ^ s : Nat) : Int) by rw [Int.natCast_mul, Int.natCast_pow]; rfl, wrapN _ hs3]
  obtain ⟨Y, hY⟩ : ∃ Y, Y = y * 2 ^ s := ⟨_, rfl⟩
  rw [← hY] at fY l1 hs2 hs3
  have HY := Lib.hid hY
  clear hY l4
  obtain ⟨N1, hN1⟩ : ∃ N1, N1 = Y / 4294967296 := ⟨_, rfl⟩
  obtain ⟨N0, hN0⟩ : ∃ N0, N0 = Y % 4294967296 := ⟨_, rfl⟩
  have f2 : (Y : Int) / 4294967296 = (N1 : Int) := by omega
  have f3 : bits .and .u64 (Y : Int) 4294967295 = (N0 : Int) := by rw [maskN Y (by omega), hN0]
  obtain ⟨Q1, hQ1⟩ : ∃ Q1, Q1 = (U * 4294967296 + u1) / Y := ⟨_, rfl⟩
  obtain ⟨R1, hR1⟩ : ∃ R1, R1 = (U * 4294967296 + u1) % Y := ⟨_, rfl⟩
  have d1 : DE Y N1 N0 U u1 Q1 := by rw [hQ1]; exact de_of (by omega) (by omega) (by omega) (by omega) l1 l2
  have lR1 : R1 < Y := by rw [hR1]; exact Nat.mod_lt _ (by omega)
  obtain ⟨Q2, hQ2⟩ : ∃ Q2, Q2 = (R1 * 4294967296 + u0) / Y := ⟨_, rfl⟩
  obtain ⟨R2, hR2⟩ : ∃ R2, R2 = (R1 * 4294967296 + u0) % Y := ⟨_, rfl⟩
  have d2 : DE Y N1 N0 R1 u0 Q2 := by rw [hQ2]; exact de_of (by omega) (by omega) (by omega) (by omega) lR1 l3
  have fR1 := dg_rest (u3 := U) (u1 := u1) (by rw [← hQ1]; exact d1) hs3
  have fR2 := dg_rest (u3 := R1) (u1 := u0) (by rw [← hQ2]; exact d2) hs3
  rw [← hQ1, ← hR1] at fR1
  rw [← hQ2, ← hR2] at fR2
  have FIN : Hid ((R2 : Int) / 2 ^ s = (((hi * 18446744073709551616 + lo) % y : Nat) : Int)) := Lib.hid (by
    rw [show ((R2 : Int) / 2 ^ s) = ((R2 / 2 ^ s : Nat) : Int) by rw [Int.natCast_ediv, Int.natCast_pow]; rfl, hR2, hR1, two_digits HY.out V4.out YP.out])
  obtain ⟨q0, hq0⟩ : ∃ q0, q0 = U / N1 := ⟨_, rfl⟩
  obtain ⟨r0, hr0⟩ : ∃ r0, r0 = U % N1 := ⟨_, rfl⟩
  obtain ⟨p0, hp0⟩ : ∃ p0, p0 = R1 / N1 := ⟨_, rfl⟩
  obtain ⟨t0, ht0'⟩ : ∃ t0, t0 = R1 % N1 := ⟨_, rfl⟩
  have HP0 := Lib.hid hp0
  have HT0 := Lib.hid ht0'
  have lN1 : 2147483648 ≤ N1 := by omega
  have hN10 : ¬ (N1 : Int) = 0 := by omega
  have fq : (U : Int) / (N1 : Int) = (q0 : Int) := by rw [hq0, Int.natCast_ediv]
  have fqw : IntKind.u64.wrap (q0 : Int) = (q0 : Int) := wrapN _ (by rw [hq0]; exact Nat.lt_of_le_of_lt (Nat.div_le_self _ _) (by omega))
  have eU : q0 * N1 + r0 = U := by rw [hq0, hr0, Nat.mul_comm]; exact Nat.div_add_mod U N1
  obtain ⟨m0, hm0⟩ : ∃ m0, m0 = q0 * N1 := ⟨_, rfl⟩
  have fm : IntKind.u64.wrap ((q0 : Int) * (N1 : Int)) = (m0 : Int) := by rw [hm0]; exact mulW _ _ (by omega)
  have fr : IntKind.u64.wrap ((U : Int) - (m0 : Int)) = (r0 : Int) := by rw [IntKind.wrap_u64]; omega
  have fp : (R1 : Int) / (N1 : Int) = (p0 : Int) := by rw [hp0, Int.natCast_ediv]
  have fpw : IntKind.u64.wrap (p0 : Int) = (p0 : Int) := wrapN _ (by rw [hp0]; exact Nat.lt_of_le_of_lt (Nat.div_le_self _ _) (by omega))
  have eR : p0 * N1 + t0 = R1 := by rw [hp0, ht0', Nat.mul_comm]; exact Nat.div_add_mod R1 N1
  obtain ⟨m1, hm1⟩ : ∃ m1, m1 = p0 * N1 := ⟨_, rfl⟩
  have fm1 : IntKind.u64.wrap ((p0 : Int) * (N1 : Int)) = (m1 : Int) := by rw [hm1]; exact mulW _ _ (by omega)
  have ft : IntKind.u64.wrap ((R1 : Int) - (m1 : Int)) = (t0 : Int) := by rw [IntKind.wrap_u64]; omega
  have G1 : Hid (Dg N1 U Q1 q0 r0) := Lib.hid (by rw [hq0, hr0]; exact (Dg.start d1).1)
  have hr00 : r0 < 4294967296 := by rw [hr0]; have := (Dg.start d1).2; have := d1.hn1; omega
  have FR1 := Lib.hid fR1
  clear hN1 hN0 hQ1 hR1 hQ2 hR2 hq0 hr0 hp0 ht0' hm0 hm1 eU eR HY V4 fR1
  go_wp2_with fail
  go_loopw [15, 16] (fun vq vr wr => ∃ q1 r1 : Nat, vq = .int .u64 q1 ∧ vr = .int .u64 r1 ∧ Dg N1 U Q1 q1 r1 ∧ r1 < 4294967296 ∧ wr = w) (fun vq _ _ => (intOf vq).toNat)
  case atStart => exact ⟨q0, r0, by first | rfl | go_num, by first | rfl | go_num, G1.out, hr00, rfl⟩
  case round =>
    clear G1
    obtain ⟨q1, r1, rfl, rfl, g1, hr1, hwr⟩ := hrel
    replace hwr := hwr.symm
    subst hwr
    have hqb1 := g1.hi
    have hn0 := d1.ln0
    have hn1 := d1.hn1
    have hl1 := d1.l1
    have hu11 := d1.lu1
    obtain ⟨P1, hP1⟩ : ∃ P1, P1 = q1 * N0 := ⟨_, rfl⟩
    obtain ⟨Br1, hBr1⟩ : ∃ Br1, Br1 = 4294967296 * r1 := ⟨_, rfl⟩
    obtain ⟨S1, hS1⟩ : ∃ S1, S1 = Br1 + u1 := ⟨_, rfl⟩
    have wB1 : IntKind.u64.wrap (4294967296 * (r1 : Int)) = (Br1 : Int) := by rw [IntKind.wrap_u64]; omega
    have wS1 : IntKind.u64.wrap ((Br1 : Int) + (u1 : Int)) = (S1 : Int) := by rw [IntKind.wrap_u64]; omega
    have HP1 := Lib.hid hP1
    have HBr1 := Lib.hid hBr1
    have HS1 := Lib.hid hS1
    have GA1 := Lib.hid g1
    by_cases hb1 : 4294967296 ≤ q1
    · have hb1i : (4294967296 : Int) ≤ (q1 : Int) := by omega
      clear hP1 hBr1 hS1
      have hlt1 := Dg.more d1 g1 (.inl hb1)
      have g1' := g1.less hlt1
      obtain ⟨q1', hq1'⟩ : ∃ q1', q1' = q1 - 1 := ⟨_, rfl⟩
      obtain ⟨r1', hr1'⟩ : ∃ r1', r1' = r1 + N1 := ⟨_, rfl⟩
      have hqd1 : IntKind.u64.wrap ((q1 : Int) - 1) = (q1' : Int) := by rw [IntKind.wrap_u64]; omega
      have hrd1 : IntKind.u64.wrap ((r1 : Int) + (N1 : Int)) = (r1' : Int) := by rw [IntKind.wrap_u64]; omega
      rw [← hq1', ← hr1'] at g1'
      have HQ1 := Lib.hid hq1'
      have hbq1 : q1' ≤ 4294967296 := by omega
      have hml1 : q1' < q1 := by omega
      clear hq1' hr1'
      have GG1 := Lib.hid g1'
      by_cases hrr1 : 4294967296 ≤ r1'
      · have hrr1i : (4294967296 : Int) ≤ (r1' : Int) := by omega
        obtain rfl : q1' = Q1 := Dg.stop d1 GG1.out hbq1 hrr1
        have fR1' : IntKind.u64.wrap (IntKind.u64.wrap (IntKind.u64.wrap ((U : Int) * 4294967296) + (u1 : Int)) - IntKind.u64.wrap ((q1' : Int) * (Y : Int))) = (R1 : Int) := FR1.out
        have g2 : Dg N1 R1 Q2 p0 t0 := by rw [HP0.out, HT0.out]; exact (Dg.start d2).1
        have ht0 : t0 < 4294967296 := by rw [HT0.out]; have := (Dg.start d2).2; have := d2.hn1; omega
        have G2 := Lib.hid g2
        clear g2
        go_wp2_with fail
        go_loopw [16, 18] (fun vr vq wr => ∃ q2 r2 : Nat, vr = .int .u64 r2 ∧ vq = .int .u64 q2 ∧ Dg N1 R1 Q2 q2 r2 ∧ r2 < 4294967296 ∧ wr = w) (fun _ vq _ => (intOf vq).toNat)
        case atStart => exact ⟨p0, t0, by first | rfl | go_num, by first | rfl | go_num, G2.out, ht0, rfl⟩
        case round =>
          clear G2
          obtain ⟨q2, r2, rfl, rfl, g2, hr2, hwr⟩ := hrel
          replace hwr := hwr.symm
          subst hwr
          have hqb2 := g2.hi
          have hn0 := d2.ln0
          have hn1 := d2.hn1
          have hl1 := d2.l1
          have hu12 := d2.lu1
          obtain ⟨P2, hP2⟩ : ∃ P2, P2 = q2 * N0 := ⟨_, rfl⟩
          obtain ⟨Br2, hBr2⟩ : ∃ Br2, Br2 = 4294967296 * r2 := ⟨_, rfl⟩
          obtain ⟨S2, hS2⟩ : ∃ S2, S2 = Br2 + u0 := ⟨_, rfl⟩
          have wB2 : IntKind.u64.wrap (4294967296 * (r2 : Int)) = (Br2 : Int) := by rw [IntKind.wrap_u64]; omega
          have wS2 : IntKind.u64.wrap ((Br2 : Int) + (u0 : Int)) = (S2 : Int) := by rw [IntKind.wrap_u64]; omega
          have HP2 := Lib.hid hP2
          have HBr2 := Lib.hid hBr2
          have HS2 := Lib.hid hS2
          have GA2 := Lib.hid g2
          by_cases hb2 : 4294967296 ≤ q2
          · have hb2i : (4294967296 : Int) ≤ (q2 : Int) := by omega
            clear hP2 hBr2 hS2
            have hlt2 := Dg.more d2 g2 (.inl hb2)
            have g2' := g2.less hlt2
            obtain ⟨q2', hq2'⟩ : ∃ q2', q2' = q2 - 1 := ⟨_, rfl⟩
            obtain ⟨r2', hr2'⟩ : ∃ r2', r2' = r2 + N1 := ⟨_, rfl⟩
            have hqd2 : IntKind.u64.wrap ((q2 : Int) - 1) = (q2' : Int) := by rw [IntKind.wrap_u64]; omega
            have hrd2 : IntKind.u64.wrap ((r2 : Int) + (N1 : Int)) = (r2' : Int) := by rw [IntKind.wrap_u64]; omega
            rw [← hq2', ← hr2'] at g2'
            have HQ2 := Lib.hid hq2'
            have hbq2 : q2' ≤ 4294967296 := by omega
            have hml2 : q2' < q2 := by omega
            clear hq2' hr2'
            have GG2 := Lib.hid g2'
            by_cases hrr2 : 4294967296 ≤ r2'
            · have hrr2i : (4294967296 : Int) ≤ (r2' : Int) := by omega
              obtain rfl : q2' = Q2 := Dg.stop d2 GG2.out hbq2 hrr2
              go_wp2_with fail
              refine bodyPost_ret (v := ?_) ?_ rfl ?_
              rotate_left
              · simp [results, Try.results39, go_sem]; rfl
              · refine ⟨⟨_, ret_u2 rfl ?_⟩, Below.refl _ _⟩
                first | exact FIN.out | (simp only [fR2]; exact FIN.out)
            · have hrr2i : ¬ (4294967296 : Int) ≤ (r2' : Int) := by omega
              go_wp2_with fail
              go_roundw
              case rel => exact ⟨q2', r2', by first | rfl | go_num, by first | rfl | go_num, GG2.out, by omega, by first | rfl | trivial⟩
              case measure => simp [intOf]; omega
          · have hb2i : ¬ (4294967296 : Int) ≤ (q2 : Int) := by omega
            have wP2 : IntKind.u64.wrap ((q2 : Int) * (N0 : Int)) = (P2 : Int) := by
              rw [hP2]
              refine mulW _ _ ?_
              have := Nat.mul_le_mul (show q2 ≤ 4294967295 by omega) (show N0 ≤ 4294967295 by omega)
              omega
            by_cases hc2 : S2 < P2
            · have hc2i : (S2 : Int) < (P2 : Int) := by omega
              have hmm2 : 4294967296 * r2 + u0 < q2 * N0 := by rw [← hP2]; omega
              clear hP2 hBr2 hS2
              have hlt2 := Dg.more d2 g2 (.inr hmm2)
              clear hmm2
              have g2' := g2.less hlt2
              obtain ⟨q2', hq2'⟩ : ∃ q2', q2' = q2 - 1 := ⟨_, rfl⟩
              obtain ⟨r2', hr2'⟩ : ∃ r2', r2' = r2 + N1 := ⟨_, rfl⟩
              have hqd2 : IntKind.u64.wrap ((q2 : Int) - 1) = (q2' : Int) := by rw [IntKind.wrap_u64]; omega
              have hrd2 : IntKind.u64.wrap ((r2 : Int) + (N1 : Int)) = (r2' : Int) := by rw [IntKind.wrap_u64]; omega
              rw [← hq2', ← hr2'] at g2'
              have HQ2 := Lib.hid hq2'
              have hbq2 : q2' ≤ 4294967296 := by omega
              have hml2 : q2' < q2 := by omega
              clear hq2' hr2'
              have GG2 := Lib.hid g2'
              by_cases hrr2 : 4294967296 ≤ r2'
              · have hrr2i : (4294967296 : Int) ≤ (r2' : Int) := by omega
                obtain rfl : q2' = Q2 := Dg.stop d2 GG2.out hbq2 hrr2
                go_wp2_with fail
                refine bodyPost_ret (v := ?_) ?_ rfl ?_
                rotate_left
                · simp [results, Try.results39, go_sem]; rfl
                · refine ⟨⟨_, ret_u2 rfl ?_⟩, Below.refl _ _⟩
                  first | exact FIN.out | (simp only [fR2]; exact FIN.out)
              · have hrr2i : ¬ (4294967296 : Int) ≤ (r2' : Int) := by omega
                go_wp2_with fail
                go_roundw
                case rel => exact ⟨q2', r2', by first | rfl | go_num, by first | rfl | go_num, GG2.out, by omega, by first | rfl | trivial⟩
                case measure => simp [intOf]; omega
            · have hc2i : ¬ (S2 : Int) < (P2 : Int) := by omega
              obtain rfl : q2 = Q2 := Dg.done d2 g2 (by rw [← hP2]; omega)
              clear hP2 hBr2 hS2
              go_wp2_with fail
              refine bodyPost_ret (v := ?_) ?_ rfl ?_
              rotate_left
              · simp [results, Try.results39, go_sem]; rfl
              · refine ⟨⟨_, ret_u2 rfl ?_⟩, Below.refl _ _⟩
                first | exact FIN.out | (simp only [fR2]; exact FIN.out)
      · have hrr1i : ¬ (4294967296 : Int) ≤ (r1' : Int) := by omega
        go_wp2_with fail
        go_roundw
        case rel => exact ⟨q1', r1', by first | rfl | go_num, by first | rfl | go_num, GG1.out, by omega, by first | rfl | trivial⟩
        case measure => simp [intOf]; omega
    · have hb1i : ¬ (4294967296 : Int) ≤ (q1 : Int) := by omega
      have wP1 : IntKind.u64.wrap ((q1 : Int) * (N0 : Int)) = (P1 : Int) := by
        rw [hP1]
        refine mulW _ _ ?_
        have := Nat.mul_le_mul (show q1 ≤ 4294967295 by omega) (show N0 ≤ 4294967295 by omega)
        omega
      by_cases hc1 : S1 < P1
      · have hc1i : (S1 : Int) < (P1 : Int) := by omega
        have hmm1 : 4294967296 * r1 + u1 < q1 * N0 := by rw [← hP1]; omega
        clear hP1 hBr1 hS1
        have hlt1 := Dg.more d1 g1 (.inr hmm1)
        clear hmm1
        have g1' := g1.less hlt1
        obtain ⟨q1', hq1'⟩ : ∃ q1', q1' = q1 - 1 := ⟨_, rfl⟩
        obtain ⟨r1', hr1'⟩ : ∃ r1', r1' = r1 + N1 := ⟨_, rfl⟩
        have hqd1 : IntKind.u64.wrap ((q1 : Int) - 1) = (q1' : Int) := by rw [IntKind.wrap_u64]; omega
        have hrd1 : IntKind.u64.wrap ((r1 : Int) + (N1 : Int)) = (r1' : Int) := by rw [IntKind.wrap_u64]; omega
        rw [← hq1', ← hr1'] at g1'
        have HQ1 := Lib.hid hq1'
        have hbq1 : q1' ≤ 4294967296 := by omega
        have hml1 : q1' < q1 := by omega
        clear hq1' hr1'
        have GG1 := Lib.hid g1'
        by_cases hrr1 : 4294967296 ≤ r1'
        · have hrr1i : (4294967296 : Int) ≤ (r1' : Int) := by omega
          obtain rfl : q1' = Q1 := Dg.stop d1 GG1.out hbq1 hrr1
          have fR1' : IntKind.u64.wrap (IntKind.u64.wrap (IntKind.u64.wrap ((U : Int) * 4294967296) + (u1 : Int)) - IntKind.u64.wrap ((q1' : Int) * (Y : Int))) = (R1 : Int) := FR1.out
          have g2 : Dg N1 R1 Q2 p0 t0 := by rw [HP0.out, HT0.out]; exact (Dg.start d2).1
          have ht0 : t0 < 4294967296 := by rw [HT0.out]; have := (Dg.start d2).2; have := d2.hn1; omega
          have G2 := Lib.hid g2
          clear g2
          go_wp2_with fail
          go_loopw [16, 18] (fun vr vq wr => ∃ q2 r2 : Nat, vr = .int .u64 r2 ∧ vq = .int .u64 q2 ∧ Dg N1 R1 Q2 q2 r2 ∧ r2 < 4294967296 ∧ wr = w) (fun _ vq _ => (intOf vq).toNat)
          case atStart => exact ⟨p0, t0, by first | rfl | go_num, by first | rfl | go_num, G2.out, ht0, rfl⟩
          case round =>
            clear G2
            obtain ⟨q2, r2, rfl, rfl, g2, hr2, hwr⟩ := hrel
            replace hwr := hwr.symm
            subst hwr
            have hqb2 := g2.hi
            have hn0 := d2.ln0
            have hn1 := d2.hn1
            have hl1 := d2.l1
            have hu12 := d2.lu1
            obtain ⟨P2, hP2⟩ : ∃ P2, P2 = q2 * N0 := ⟨_, rfl⟩
            obtain ⟨Br2, hBr2⟩ : ∃ Br2, Br2 = 4294967296 * r2 := ⟨_, rfl⟩
            obtain ⟨S2, hS2⟩ : ∃ S2, S2 = Br2 + u0 := ⟨_, rfl⟩
            have wB2 : IntKind.u64.wrap (4294967296 * (r2 : Int)) = (Br2 : Int) := by rw [IntKind.wrap_u64]; omega
            have wS2 : IntKind.u64.wrap ((Br2 : Int) + (u0 : Int)) = (S2 : Int) := by rw [IntKind.wrap_u64]; omega
            have HP2 := Lib.hid hP2
            have HBr2 := Lib.hid hBr2
            have HS2 := Lib.hid hS2
            have GA2 := Lib.hid g2
            by_cases hb2 : 4294967296 ≤ q2
            · have hb2i : (4294967296 : Int) ≤ (q2 : Int) := by omega
              clear hP2 hBr2 hS2
              have hlt2 := Dg.more d2 g2 (.inl hb2)
              have g2' := g2.less hlt2
              obtain ⟨q2', hq2'⟩ : ∃ q2', q2' = q2 - 1 := ⟨_, rfl⟩
              obtain ⟨r2', hr2'⟩ : ∃ r2', r2' = r2 + N1 := ⟨_, rfl⟩
              have hqd2 : IntKind.u64.wrap ((q2 : Int) - 1) = (q2' : Int) := by rw [IntKind.wrap_u64]; omega
              have hrd2 : IntKind.u64.wrap ((r2 : Int) + (N1 : Int)) = (r2' : Int) := by rw [IntKind.wrap_u64]; omega
              rw [← hq2', ← hr2'] at g2'
              have HQ2 := Lib.hid hq2'
              have hbq2 : q2' ≤ 4294967296 := by omega
              have hml2 : q2' < q2 := by omega
              clear hq2' hr2'
              have GG2 := Lib.hid g2'
              by_cases hrr2 : 4294967296 ≤ r2'
              · have hrr2i : (4294967296 : Int) ≤ (r2' : Int) := by omega
                obtain rfl : q2' = Q2 := Dg.stop d2 GG2.out hbq2 hrr2
                go_wp2_with fail
                refine bodyPost_ret (v := ?_) ?_ rfl ?_
                rotate_left
                · simp [results, Try.results39, go_sem]; rfl
                · refine ⟨⟨_, ret_u2 rfl ?_⟩, Below.refl _ _⟩
                  first | exact FIN.out | (simp only [fR2]; exact FIN.out)
              · have hrr2i : ¬ (4294967296 : Int) ≤ (r2' : Int) := by omega
                go_wp2_with fail
                go_roundw
                case rel => exact ⟨q2', r2', by first | rfl | go_num, by first | rfl | go_num, GG2.out, by omega, by first | rfl | trivial⟩
                case measure => simp [intOf]; omega
            · have hb2i : ¬ (4294967296 : Int) ≤ (q2 : Int) := by omega
              have wP2 : IntKind.u64.wrap ((q2 : Int) * (N0 : Int)) = (P2 : Int) := by
                rw [hP2]
                refine mulW _ _ ?_
                have := Nat.mul_le_mul (show q2 ≤ 4294967295 by omega) (show N0 ≤ 4294967295 by omega)
                omega
              by_cases hc2 : S2 < P2
              · have hc2i : (S2 : Int) < (P2 : Int) := by omega
                have hmm2 : 4294967296 * r2 + u0 < q2 * N0 := by rw [← hP2]; omega
                clear hP2 hBr2 hS2
                have hlt2 := Dg.more d2 g2 (.inr hmm2)
                clear hmm2
                have g2' := g2.less hlt2
                obtain ⟨q2', hq2'⟩ : ∃ q2', q2' = q2 - 1 := ⟨_, rfl⟩
                obtain ⟨r2', hr2'⟩ : ∃ r2', r2' = r2 + N1 := ⟨_, rfl⟩
                have hqd2 : IntKind.u64.wrap ((q2 : Int) - 1) = (q2' : Int) := by rw [IntKind.wrap_u64]; omega
                have hrd2 : IntKind.u64.wrap ((r2 : Int) + (N1 : Int)) = (r2' : Int) := by rw [IntKind.wrap_u64]; omega
                rw [← hq2', ← hr2'] at g2'
                have HQ2 := Lib.hid hq2'
                have hbq2 : q2' ≤ 4294967296 := by omega
                have hml2 : q2' < q2 := by omega
                clear hq2' hr2'
                have GG2 := Lib.hid g2'
                by_cases hrr2 : 4294967296 ≤ r2'
                · have hrr2i : (4294967296 : Int) ≤ (r2' : Int) := by omega
                  obtain rfl : q2' = Q2 := Dg.stop d2 GG2.out hbq2 hrr2
                  go_wp2_with fail
                  refine bodyPost_ret (v := ?_) ?_ rfl ?_
                  rotate_left
                  · simp [results, Try.results39, go_sem]; rfl
                  · refine ⟨⟨_, ret_u2 rfl ?_⟩, Below.refl _ _⟩
                    first | exact FIN.out | (simp only [fR2]; exact FIN.out)
                · have hrr2i : ¬ (4294967296 : Int) ≤ (r2' : Int) := by omega
                  go_wp2_with fail
                  go_roundw
                  case rel => exact ⟨q2', r2', by first | rfl | go_num, by first | rfl | go_num, GG2.out, by omega, by first | rfl | trivial⟩
                  case measure => simp [intOf]; omega
              · have hc2i : ¬ (S2 : Int) < (P2 : Int) := by omega
                obtain rfl : q2 = Q2 := Dg.done d2 g2 (by rw [← hP2]; omega)
                clear hP2 hBr2 hS2
                go_wp2_with fail
                refine bodyPost_ret (v := ?_) ?_ rfl ?_
                rotate_left
                · simp [results, Try.results39, go_sem]; rfl
                · refine ⟨⟨_, ret_u2 rfl ?_⟩, Below.refl _ _⟩
                  first | exact FIN.out | (simp only [fR2]; exact FIN.out)
        · have hrr1i : ¬ (4294967296 : Int) ≤ (r1' : Int) := by omega
          go_wp2_with fail
          go_roundw
          case rel => exact ⟨q1', r1', by first | rfl | go_num, by first | rfl | go_num, GG1.out, by omega, by first | rfl | trivial⟩
          case measure => simp [intOf]; omega
      · have hc1i : ¬ (S1 : Int) < (P1 : Int) := by omega
        obtain rfl : q1 = Q1 := Dg.done d1 g1 (by rw [← hP1]; omega)
        clear hP1 hBr1 hS1
        have fR1' : IntKind.u64.wrap (IntKind.u64.wrap (IntKind.u64.wrap ((U : Int) * 4294967296) + (u1 : Int)) - IntKind.u64.wrap ((q1 : Int) * (Y : Int))) = (R1 : Int) := FR1.out
        have g2 : Dg N1 R1 Q2 p0 t0 := by rw [HP0.out, HT0.out]; exact (Dg.start d2).1
        have ht0 : t0 < 4294967296 := by rw [HT0.out]; have := (Dg.start d2).2; have := d2.hn1; omega
        have G2 := Lib.hid g2
        clear g2
        go_wp2_with fail
        go_loopw [16, 18] (fun vr vq wr => ∃ q2 r2 : Nat, vr = .int .u64 r2 ∧ vq = .int .u64 q2 ∧ Dg N1 R1 Q2 q2 r2 ∧ r2 < 4294967296 ∧ wr = w) (fun _ vq _ => (intOf vq).toNat)
        case atStart => exact ⟨p0, t0, by first | rfl | go_num, by first | rfl | go_num, G2.out, ht0, rfl⟩
        case round =>
          clear G2
          obtain ⟨q2, r2, rfl, rfl, g2, hr2, hwr⟩ := hrel
          replace hwr := hwr.symm
          subst hwr
          have hqb2 := g2.hi
          have hn0 := d2.ln0
          have hn1 := d2.hn1
          have hl1 := d2.l1
          have hu12 := d2.lu1
          obtain ⟨P2, hP2⟩ : ∃ P2, P2 = q2 * N0 := ⟨_, rfl⟩
          obtain ⟨Br2, hBr2⟩ : ∃ Br2, Br2 = 4294967296 * r2 := ⟨_, rfl⟩
          obtain ⟨S2, hS2⟩ : ∃ S2, S2 = Br2 + u0 := ⟨_, rfl⟩
          have wB2 : IntKind.u64.wrap (4294967296 * (r2 : Int)) = (Br2 : Int) := by rw [IntKind.wrap_u64]; omega
          have wS2 : IntKind.u64.wrap ((Br2 : Int) + (u0 : Int)) = (S2 : Int) := by rw [IntKind.wrap_u64]; omega
          have HP2 := Lib.hid hP2
          have HBr2 := Lib.hid hBr2
          have HS2 := Lib.hid hS2
          have GA2 := Lib.hid g2
          by_cases hb2 : 4294967296 ≤ q2
          · have hb2i : (4294967296 : Int) ≤ (q2 : Int) := by omega
            clear hP2 hBr2 hS2
            have hlt2 := Dg.more d2 g2 (.inl hb2)
            have g2' := g2.less hlt2
            obtain ⟨q2', hq2'⟩ : ∃ q2', q2' = q2 - 1 := ⟨_, rfl⟩
            obtain ⟨r2', hr2'⟩ : ∃ r2', r2' = r2 + N1 := ⟨_, rfl⟩
            have hqd2 : IntKind.u64.wrap ((q2 : Int) - 1) = (q2' : Int) := by rw [IntKind.wrap_u64]; omega
            have hrd2 : IntKind.u64.wrap ((r2 : Int) + (N1 : Int)) = (r2' : Int) := by rw [IntKind.wrap_u64]; omega
            rw [← hq2', ← hr2'] at g2'
            have HQ2 := Lib.hid hq2'
            have hbq2 : q2' ≤ 4294967296 := by omega
            have hml2 : q2' < q2 := by omega
            clear hq2' hr2'
            have GG2 := Lib.hid g2'
            by_cases hrr2 : 4294967296 ≤ r2'
            · have hrr2i : (4294967296 : Int) ≤ (r2' : Int) := by omega
              obtain rfl : q2' = Q2 := Dg.stop d2 GG2.out hbq2 hrr2
              go_wp2_with fail
              refine bodyPost_ret (v := ?_) ?_ rfl ?_
              rotate_left
              · simp [results, Try.results39, go_sem]; rfl
              · refine ⟨⟨_, ret_u2 rfl ?_⟩, Below.refl _ _⟩
                first | exact FIN.out | (simp only [fR2]; exact FIN.out)
            · have hrr2i : ¬ (4294967296 : Int) ≤ (r2' : Int) := by omega
              go_wp2_with fail
              go_roundw
              case rel => exact ⟨q2', r2', by first | rfl | go_num, by first | rfl | go_num, GG2.out, by omega, by first | rfl | trivial⟩
              case measure => simp [intOf]; omega
          · have hb2i : ¬ (4294967296 : Int) ≤ (q2 : Int) := by omega
            have wP2 : IntKind.u64.wrap ((q2 : Int) * (N0 : Int)) = (P2 : Int) := by
              rw [hP2]
              refine mulW _ _ ?_
              have := Nat.mul_le_mul (show q2 ≤ 4294967295 by omega) (show N0 ≤ 4294967295 by omega)
              omega
            by_cases hc2 : S2 < P2
            · have hc2i : (S2 : Int) < (P2 : Int) := by omega
              have hmm2 : 4294967296 * r2 + u0 < q2 * N0 := by rw [← hP2]; omega
              clear hP2 hBr2 hS2
              have hlt2 := Dg.more d2 g2 (.inr hmm2)
              clear hmm2
              have g2' := g2.less hlt2
              obtain ⟨q2', hq2'⟩ : ∃ q2', q2' = q2 - 1 := ⟨_, rfl⟩
              obtain ⟨r2', hr2'⟩ : ∃ r2', r2' = r2 + N1 := ⟨_, rfl⟩
              have hqd2 : IntKind.u64.wrap ((q2 : Int) - 1) = (q2' : Int) := by rw [IntKind.wrap_u64]; omega
              have hrd2 : IntKind.u64.wrap ((r2 : Int) + (N1 : Int)) = (r2' : Int) := by rw [IntKind.wrap_u64]; omega
              rw [← hq2', ← hr2'] at g2'
              have HQ2 := Lib.hid hq2'
              have hbq2 : q2' ≤ 4294967296 := by omega
              have hml2 : q2' < q2 := by omega
              clear hq2' hr2'
              have GG2 := Lib.hid g2'
              by_cases hrr2 : 4294967296 ≤ r2'
              · have hrr2i : (4294967296 : Int) ≤ (r2' : Int) := by omega
                obtain rfl : q2' = Q2 := Dg.stop d2 GG2.out hbq2 hrr2
                go_wp2_with fail
                refine bodyPost_ret (v := ?_) ?_ rfl ?_
                rotate_left
                · simp [results, Try.results39, go_sem]; rfl
                · refine ⟨⟨_, ret_u2 rfl ?_⟩, Below.refl _ _⟩
                  first | exact FIN.out | (simp only [fR2]; exact FIN.out)
              · have hrr2i : ¬ (4294967296 : Int) ≤ (r2' : Int) := by omega
                go_wp2_with fail
                go_roundw
                case rel => exact ⟨q2', r2', by first | rfl | go_num, by first | rfl | go_num, GG2.out, by omega, by first | rfl | trivial⟩
                case measure => simp [intOf]; omega
            · have hc2i : ¬ (S2 : Int) < (P2 : Int) := by omega
              obtain rfl : q2 = Q2 := Dg.done d2 g2 (by rw [← hP2]; omega)
              clear hP2 hBr2 hS2
              go_wp2_with fail
              refine bodyPost_ret (v := ?_) ?_ rfl ?_
              rotate_left
              · simp [results, Try.results39, go_sem]; rfl
              · refine ⟨⟨_, ret_u2 rfl ?_⟩, Below.refl _ _⟩
                first | exact FIN.out | (simp only [fR2]; exact FIN.out)
theorem divOk_all : DivOk 1099511627776 := by
  intro hi lo m w h1 h2 h3 h4 h5
  by_cases h0 : hi = 0
  · subst h0
    refine (div64_small lo m h2 (by omega) (by omega) w).mono ?_; rintro e w' ⟨rfl, hb⟩
    rw [Nat.zero_mul, Nat.zero_add]
    exact ⟨⟨_, rfl⟩, hb⟩
  · exact div64_walk hi lo m w h1 h2 (by omega) (by omega)
end Go.Proofs.Ytepoionjcjgnjaa
