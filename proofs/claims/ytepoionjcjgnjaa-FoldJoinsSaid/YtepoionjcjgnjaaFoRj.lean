import Derived.Test.YtepoionjcjgnjaaFoU
import Derived.Test.YtepoionjcjgnjaaFoDb
set_option autoImplicit false
set_option linter.unusedVariables false
namespace Go.Proofs.Ytepoionjcjgnjaa
open Go.RowKit Lk Fo
structure TR (r m : Int) (f : FuncId) (args : Array Value) (u : Value) (w : World) : Prop where
  a : f = 31 → args = #[.int .i64 r, .int .i64 m] → u = .int .i64 (r % m)
theorem tr_a {r m : Int} (r1 : -9223372036854775808 ≤ r) (r2 : r ≤ 9223372036854775807) (m1 : 1 ≤ m) (m2 : m ≤ 9223372036854775807) (w : World) : Calls Try.prog 31 #[.int .i64 r, .int .i64 m] w (fun e' w'' => ∃ u, e' = .returned u ∧ TR r m 31 #[.int .i64 r, .int .i64 m] u w'' ∧ Ext w w'') :=
  (rmod_walk r m w r1 r2 m1 m2).mono fun e' w' ⟨he, hb⟩ => ⟨_, he, ⟨fun _ _ => rfl⟩, by rw [← hb]; exact Ext.refl _⟩
structure TQ (x m p o tm : Int) (f : FuncId) (args : Array Value) (u : Value) (w : World) : Prop where
  a : f = 31 → args = #[.int .i64 x, .int .i64 m] → u = .int .i64 (x % m)
  b : f = 31 → args = #[.int .i64 p, .int .i64 o] → u = .int .i64 (p % o)
  c : f = 32 → u = .int .i64 tm
theorem tq_a {x m p o tm : Int} (r1 : -9223372036854775808 ≤ x) (r2 : x ≤ 9223372036854775807) (m1 : 1 ≤ m) (m2 : m ≤ 9223372036854775807) (w : World) : Calls Try.prog 31 #[.int .i64 x, .int .i64 m] w (fun e' w'' => ∃ u, e' = .returned u ∧ TQ x m p o tm 31 #[.int .i64 x, .int .i64 m] u w'' ∧ Ext w w'') :=
  (rmod_walk x m w r1 r2 m1 m2).mono fun e' w' ⟨he, hb⟩ => ⟨_, he, ⟨fun _ _ => rfl, fun _ h => by simp at h; rw [h.1, h.2], fun h => absurd h (by decide)⟩, by rw [← hb]; exact Ext.refl _⟩
theorem tq_b {x m p o tm : Int} (r1 : -9223372036854775808 ≤ p) (r2 : p ≤ 9223372036854775807) (m1 : 1 ≤ o) (m2 : o ≤ 9223372036854775807) (w : World) : Calls Try.prog 31 #[.int .i64 p, .int .i64 o] w (fun e' w'' => ∃ u, e' = .returned u ∧ TQ x m p o tm 31 #[.int .i64 p, .int .i64 o] u w'' ∧ Ext w w'') :=
  (rmod_walk p o w r1 r2 m1 m2).mono fun e' w' ⟨he, hb⟩ => ⟨_, he, ⟨fun _ h => by simp at h; rw [h.1, h.2], fun _ _ => rfl, fun h => absurd h (by decide)⟩, by rw [← hb]; exact Ext.refl _⟩
theorem tq_c {x m p o tm t : Int} (ht : tm = t % o * (p % o) % o) (t1 : -9223372036854775808 ≤ t) (t2 : t ≤ 9223372036854775807) (m1 : 1 ≤ o) (m2 : o ≤ 4611686018427387904) (w : World) : Calls Try.prog 32 #[.int .i64 t, .int .i64 (p % o), .int .i64 o] w (fun e' w'' => ∃ u, e' = .returned u ∧ TQ x m p o tm 32 #[.int .i64 t, .int .i64 (p % o), .int .i64 o] u w'' ∧ Ext w w'') := by
  have q0 := Int.emod_nonneg p (show o ≠ 0 by omega)
  have q1 := Int.emod_lt_of_pos p (show 0 < o by omega)
  refine (rtimes_walk t (p % o) o w t1 t2 (by omega) (by omega) m1 m2).mono fun e' w' ⟨he, hb⟩ => ⟨_, he, ⟨fun h => absurd h (by decide), fun h => absurd h (by decide), fun _ => ?_⟩, by rw [← hb]; exact Ext.refl _⟩
  rw [ht, Int.mul_emod t, Int.emod_emod_of_dvd _ (Int.dvd_refl o)]
set_option maxHeartbeats 4000000 in
set_option maxRecDepth 100000 in
theorem rjoin_walk (a1 a2 : Option Addr) (n1 n2 c1 c2 : Nat) (R M : List Int) (w : World) (s1 : Sl w a1 n1 c1 R) (s2 : Sl w a2 n2 c2 M) :
    Calls Try.prog 15 #[.slice a1 n1 c1, .slice a2 n2 c2] w (fun e w' => e = .returned (.tuple #[.int .i64 (joinW R M).1, .int .i64 (joinW R M).2.1, .int .i64 (joinW R M).2.2]) ∧ Below w.heap.size w w') := by
  have l1 := s1.len
  have l2 := s2.len
  have S1 := Lib.hid s1
  have S2 := Lib.hid s2
  have L := Lib.hid (And.intro l1 l2)
  clear s1 s2 l1 l2
  go_enter Try.func15, Try.ntmps15
  go_wp2_with fail
  refine (count_walk a1 a2 n1 n2 c1 c2 _).mono ?_; rintro e w1 ⟨rfl, rfl⟩
  obtain ⟨n, hn⟩ : ∃ n, n = min n1 n2 := ⟨_, rfl⟩
  rw [← hn]
  have HN := Lib.hid hn
  clear hn
  by_cases h8 : 8 < n
  · have h8' : (8 : Int) < (n : Int) := by omega
    have J : Hid (joinW R M = (0, 0, 3)) := Lib.hid (by unfold joinW; rw [L.out.1, L.out.2, ← HN.out, if_pos h8])
    go_wp2_with fail
    refine bodyPost_ret (v := ?_) ?_ rfl ?_
    rotate_left
    · simp [results, Try.results15, go_sem]; rfl
    · exact ⟨ret3 J.out, Below.refl _ _⟩
  · have h8' : ¬ (8 : Int) < (n : Int) := by omega
    have J : Hid (joinW R M = jn (R.zip M) 0 1) := Lib.hid (by unfold joinW; rw [L.out.1, L.out.2, ← HN.out, if_neg h8])
    go_wp2_with fail
    go_loopw [4, 5, 8] (fun vx va i wr => ∃ (k : Nat) (x all : Int), k ≤ n ∧ i = .int .i64 k ∧ vx = .int .i64 x ∧ va = .int .i64 all ∧ (0 ≤ x ∧ x < all ∧ all ≤ 4611686018427387904) ∧ jn ((R.zip M).drop k) x all = jn (R.zip M) 0 1 ∧ Below w.heap.size w wr) (fun _ _ i _ => n - (intOf i).toNat)
    case atStart => exact ⟨0, 0, 1, Nat.zero_le _, rfl, rfl, rfl, by omega, rfl, Below.refl _ _⟩
    case round =>
      obtain ⟨k, x, all, hk, rfl, rfl, rfl, ⟨x0, x1, x2⟩, hj, hb⟩ := hrel
      have HJ := Lib.hid hj
      have HB := Lib.hid hb
      have zz := hb.size
      clear hj hb
      by_cases hlt : k < n
      · have hk64 : (k : Int) < (n : Int) := by omega
        have q1 : (k : Int) < (n1 : Int) := by have := HN.out; omega
        have q2 : (k : Int) < (n2 : Int) := by have := HN.out; omega
        obtain ⟨b1, o1, r, rfl, hb1, e1, D1, r1, r2⟩ := (S1.out.keep HB.out).at (k := k) (by omega)
        obtain ⟨b2, o2, m, rfl, hb2, e2, D2, m1, m2⟩ := (S2.out.keep HB.out).at (k := k) (by omega)
        have Z := Lib.hid (zip_drop e1 e2)
        clear e1 e2
        by_cases g1 : m < 1
        · go_wp2_with fail
          refine bodyPost_ret (v := ?_) ?_ rfl ?_
          rotate_left
          · simp [results, Try.results15, go_sem]; rfl
          · exact ⟨ret3 (by rw [J.out, ← HJ.out, Z.out, jn_bad (.inl g1)]), HB.out⟩
        · by_cases g2 : 1099511627776 < m
          · go_wp2_with fail
            refine bodyPost_ret (v := ?_) ?_ rfl ?_
            rotate_left
            · simp [results, Try.results15, go_sem]; rfl
            · exact ⟨ret3 (by rw [J.out, ← HJ.out, Z.out, jn_bad (.inr g2)]), HB.out⟩
          · have f1 : 1 ≤ m ∧ m ≤ 1099511627776 := by omega
            obtain ⟨f0, f2, f3, f4, f5, f6, f7, f8⟩ := round_facts (r := r) x0 x1 x2 (show 1 ≤ m by omega) (by omega)
            have FL : Hid (lack x r m = r % m - x % m) := rfl
            have FO : Hid (own all m = m / (gcdR all m).g) := rfl
            have X1 : 1 ≤ m := by omega
            have xr0 := Int.emod_nonneg x (show m ≠ 0 by omega)
            have xr1 := Int.emod_lt_of_pos x (show 0 < m by omega)
            have rr0 := Int.emod_nonneg r (show m ≠ 0 by omega)
            have rr1 := Int.emod_lt_of_pos r (show 0 < m by omega)
            have hwl : wrap64 (r % m - x % m) = lack x r m := by rw [← FL.out]; exact wrap_self (by omega) (by omega)
            have hwl2 : IntKind.i64.wrap (r % m - x % m) = lack x r m := by rw [← FL.out]; exact wrap_i (by omega) (by omega)
            go_wp2_with fail
            refine (rgcd_walk all m _ (by omega) (by omega) (by omega) (by omega)).mono ?_; rintro e w1 ⟨rfl, rfl⟩
            go_wp2_with fail
            refine wp_region_G (TR r m) (by kernel_rfl) (by kernel_rfl) ?_
            repeat' (refine wpG_step' (fun K hA hK => ?_); go_simp; first | (refine bothG_value hA (v := ?_) (fun w' hw' => ?_) ?_; rotate_left; (· go_simp; rfl); (refine hK _ _ ?_; clear hK hA K)) | (refine bothG_call (f := 31) (args := ?_) (fun w' => ?_) (fun w' _ => ?_) ?_; rotate_left; (· go_simp; rfl); (· exact tr_a r1 r2 X1 m2 _); (intro u xw hu; obtain rfl := hu.a rfl rfl; clear hu; refine hK _ _ ?_; clear hK hA K)))
            refine wpG_nil ?_
            intro w5 hb5 hF
            have HB5 := Lib.hid (HB.out.trans (hb5.mono zz))
            have D2' := (hb5.cell (p := ⟨b2, o2 + k, none⟩) hb2).trans D2
            have zz5 := hb5.size
            have hb25 : b2 < w5.heap.size := by omega
            clear hF hb5 D2 D1 HB
            go_wp2_with fail
            refine (rmod_walk x m _ (by omega) (by omega) X1 m2).mono ?_; rintro e w6 ⟨rfl, rfl⟩
            go_wp2_with fail
            refine (rmod_walk (lack x r m) (gcdR all m).g _ (by omega) (by omega) f0 (by omega)).mono ?_; rintro e w6 ⟨rfl, rfl⟩
            by_cases hz : lack x r m % (gcdR all m).g = 0
            · have hz0 := Lib.hid hz
              rw [hz]
              clear hz
              have ho : m.tdiv (gcdR all m).g = own all m := by rw [FO.out]; exact Int.tdiv_eq_ediv_of_nonneg (by omega)
              have ho2 : m / (gcdR all m).g = own all m := FO.out.symm
              have hwo : wrap64 (own all m) = own all m := wrap_self (by omega) (by omega)
              have hq : Int.tdiv 4611686018427387904 (own all m) = 4611686018427387904 / own all m := Int.tdiv_eq_ediv_of_nonneg (by omega)
              have hq0 : 0 ≤ 4611686018427387904 / own all m := Int.ediv_nonneg (by omega) (by omega)
              have hq1 : 4611686018427387904 / own all m ≤ 4611686018427387904 := Int.ediv_le_self _ (by omega)
              have hwq : wrap64 (4611686018427387904 / own all m) = 4611686018427387904 / own all m := wrap_self (by omega) (by omega)
              by_cases hl : 4611686018427387904 / own all m < all
              · go_wp2_with fail
                refine bodyPost_ret (v := ?_) ?_ rfl ?_
                rotate_left
                · simp [results, Try.results15, go_sem]; rfl
                · exact ⟨ret3 (by rw [J.out, ← HJ.out, Z.out, jn_long (by omega) hz0.out hl]), HB5.out⟩
              · have hl0 := Lib.hid hl
                obtain ⟨u1, u2, u3⟩ := lack_div x0 x1 x2 f1.1 f1.2 hz0.out
                have JS := Lib.hid (join_step (r := r) x0 x1 x2 f1.1 f1.2 hz0.out)
                have JA : Hid (all * own all m ≤ 4611686018427387904) := Lib.hid (by
                  have a2 := Int.mul_le_mul_of_nonneg_right (show all ≤ 4611686018427387904 / own all m by omega) (show 0 ≤ own all m by omega)
                  have a3 := Int.ediv_mul_le 4611686018427387904 (show own all m ≠ 0 by omega)
                  omega)
                have TT : Hid (tms x all r m = lack x r m / (gcdR all m).g % own all m * ((gcdR all m).x % own all m) % own all m) := rfl
                go_wp2_with fail
                clear hq hq0 hq1 hwq hl ho ho2
                obtain ⟨T, hT⟩ : ∃ T, lack x r m / (gcdR all m).g = T := ⟨_, rfl⟩
                rw [hT] at u1 u2 u3
                have HT := Lib.hid hT
                clear hT
                have hwT := wrap_i (z := T) (by omega) (by omega)
                have Y0 : ¬ (gcdR all m).g = 0 := by omega
                have Y1 : -9223372036854775808 ≤ T := by omega
                have Y2 : T ≤ 9223372036854775807 := by omega
                have Y3 : own all m ≤ 9223372036854775807 := by omega
                have Y5 : own all m ≤ 4611686018427387904 := by omega
                have Y6 : -9223372036854775808 ≤ x := by omega
                have Y7 : x ≤ 9223372036854775807 := by omega
                have YT : tms x all r m = T % own all m * ((gcdR all m).x % own all m) % own all m := by rw [TT.out, HT.out]
                have YH := Lib.hid YT
                clear YT
                refine wp_region_G (TQ x m (gcdR all m).x (own all m) (tms x all r m)) (by kernel_rfl) (by kernel_rfl) ?_
                repeat' (refine wpG_step' (fun K hA hK => ?_); go_simp; first | (refine bothG_value hA (v := ?_) (fun w' hw' => ?_) ?_; rotate_left; (· go_simp; rfl); (refine hK _ _ ?_; clear hK hA K)) | (refine bothG_call (f := 31) (args := ?_) (fun w' => ?_) (fun w' _ => ?_) ?_; rotate_left; (· go_simp; rfl); (· exact tq_a Y6 Y7 X1 m2 _); (intro u xw hu; obtain rfl := hu.a rfl rfl; clear hu; refine hK _ _ ?_; clear hK hA K)) | (refine bothG_call (f := 31) (args := ?_) (fun w' => ?_) (fun w' _ => ?_) ?_; rotate_left; (· go_simp; rfl); (· exact tq_b f7 f8 f3 Y3 _); (intro u xw hu; obtain rfl := hu.b rfl rfl; clear hu; refine hK _ _ ?_; clear hK hA K)) | (refine bothG_call (f := 32) (args := ?_) (fun w' => ?_) (fun w' _ => ?_) ?_; rotate_left; (· go_simp; rfl); (· exact tq_c YH.out Y1 Y2 f3 Y5 _); (intro u xw hu; obtain rfl := hu.c rfl; clear hu; refine hK _ _ ?_; clear hK hA K)))
                refine wpG_nil ?_
                intro w6 hb6 hF
                have HB6 := Lib.hid (HB5.out.trans (hb6.mono (by omega)))
                have zz6 := hb6.size
                clear hF hb6 D2' HB5
                obtain ⟨v1, v2, v3, v4, v5, v6, v7⟩ := JS.out
                have v0 : 0 ≤ tms x all r m := by rw [YH.out]; exact Int.emod_nonneg _ (by omega)
                have v01 : tms x all r m < own all m := by rw [YH.out]; exact Int.emod_lt_of_pos _ (by omega)
                have v8 : 0 ≤ all * tms x all r m := Int.mul_nonneg (by omega) v0
                have v9 := JA.out
                have v10 : all * tms x all r m < all * own all m := by omega
                have v11 : all * 1 ≤ all * own all m := Int.mul_le_mul_of_nonneg_left (by omega) (by omega)
                have k3 : wrap64 (all * own all m) = all * own all m := wrap_self (by omega) (by omega)
                have V : Hid ((0 ≤ x + all * tms x all r m ∧ x + all * tms x all r m < all * own all m ∧ all * own all m ≤ 4611686018427387904)) := Lib.hid ⟨v1, v2, v9⟩
                have G : Hid (jn ((R.zip M).drop (k + 1)) (x + all * tms x all r m) (all * own all m) = jn (R.zip M) 0 1) := Lib.hid (by rw [← HJ.out, Z.out, jn_go (by omega) hz0.out (by have := hl0.out; omega)])
                obtain ⟨AO, hAO⟩ : ∃ AO, all * own all m = AO := ⟨_, rfl⟩
                obtain ⟨AT, hAT⟩ : ∃ AT, all * tms x all r m = AT := ⟨_, rfl⟩
                have HAT := Lib.hid hAT
                have kAO : wrap64 (all * own all m) = AO := by rw [hAO] at k3 ⊢; exact k3
                rw [hAO] at k3 V G v10 v11
                rw [hAT] at V G v8 v10
                have v9' : AO ≤ 4611686018427387904 := by omega
                have hE : all * tms x all r m % AO = AT := by rw [hAT]; exact Int.emod_eq_of_lt v8 v10
                have hP : pls x AT AO = x + AT := by
                  have := (pls_eq (a := x) (b := AT) (m := AO) (by omega) (by omega) v8 v10).1
                  rw [this]
                  exact Int.emod_eq_of_lt V.out.1 V.out.2.1
                have HE := Lib.hid hE
                have HPl := Lib.hid hP
                have tl : tms x all r m ≤ 9223372036854775807 := by omega
                have HAO := Lib.hid hAO
                clear v1 v2 v3 v4 v5 v6 v7 v9 u1 u2 u3 hAO hAT hE hP hwl hwl2
                go_wp2_with fail
                refine (rtimes_walk all (tms x all r m) AO _ (by omega) (by omega) (by omega) (by omega) (by omega) v9').mono ?_; rintro e w7 ⟨rfl, rfl⟩
                rw [HE.out]
                go_wp2_with fail
                refine (plus_walk x AT AO _ x0 (by omega) v8 v10 v9').mono ?_; rintro e w7 ⟨rfl, rfl⟩
                rw [HPl.out]
                go_wp2_with fail
                go_roundw
                case rel => exact ⟨k + 1, x + AT, AO, by omega, by go_num, rfl, rfl, V.out, G.out, HB6.out⟩
                case measure => simp [intOf]; omega
            · have hz' : ¬ lack x r m % (gcdR all m).g = 0 := hz
              go_wp2_with fail
              refine bodyPost_ret (v := ?_) ?_ rfl ?_
              rotate_left
              · simp [results, Try.results15, go_sem]; rfl
              · exact ⟨ret3 (by rw [J.out, ← HJ.out, Z.out, jn_unlike (by omega) hz]), HB5.out⟩
      · obtain rfl : k = n := by omega
        have E : Hid (joinW R M = (x, all, 0)) := Lib.hid (by
          rw [J.out, ← HJ.out, zip_drop_end (by have := HN.out; have := L.out; omega)]; rfl)
        go_wp2_with fail
        refine bodyPost_ret (v := ?_) ?_ rfl ?_
        rotate_left
        · simp [results, Try.results15, go_sem]; rfl
        · exact ⟨ret3 E.out, HB.out⟩
end Go.Proofs.Ytepoionjcjgnjaa
