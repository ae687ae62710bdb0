import Derived.Test.YtepoionjcjgnjaaFoJ
import Derived.Deep.QuietTactic
set_option autoImplicit false
set_option linter.unusedVariables false
namespace Go.Proofs.Ytepoionjcjgnjaa
open Go.RowKit Lk Fo
theorem lt_min {n1 n2 : Nat} : (if n2 < n1 then (n2 : Int) else (n1 : Int)) = ((min n1 n2 : Nat) : Int) := by split <;> omega
set_option maxHeartbeats 4000000 in
set_option maxRecDepth 100000 in
theorem join_walk (B : Int) (hD : DivOk B) (hB : B ≤ 1099511627776) (a1 a2 : Option Addr) (n1 n2 c1 c2 : Nat) (R M : List Int) (w : World) (s1 : Sl w a1 n1 c1 R) (s2 : Sl w a2 n2 c2 M) (hM : ∀ m ∈ M, m ≤ B ∨ 1099511627776 < m) :
    Calls Try.prog 14 #[.slice a1 n1 c1, .slice a2 n2 c2] w (fun e w' => e = .returned (.tuple #[.int .i64 (joinW R M).1, .int .i64 (joinW R M).2.1, .int .i64 (joinW R M).2.2]) ∧ Below w.heap.size w w') := by
  have l1 := s1.len
  have l2 := s2.len
  have S1 := Lib.hid s1
  have S2 := Lib.hid s2
  have L := Lib.hid (And.intro l1 l2)
  have HMB := Lib.hid hM
  clear s1 s2 l1 l2 hM
  have hif := lt_min (n1 := n1) (n2 := n2)
  obtain ⟨n, hn⟩ : ∃ n, n = min n1 n2 := ⟨_, rfl⟩
  rw [← hn] at hif
  have HN := Lib.hid hn
  clear hn
  by_cases h8 : 8 < n
  · have h8' : (8 : Int) < (n : Int) := by omega
    have J : Hid (joinW R M = (0, 0, 3)) := Lib.hid (by unfold joinW; rw [L.out.1, L.out.2, ← HN.out, if_pos h8])
    go_enter Try.func14, Try.ntmps14
    go_wp2_with fail
    refine bodyPost_ret (v := ?_) ?_ rfl ?_
    rotate_left
    · simp [results, Try.results14, go_sem]; rfl
    · exact ⟨ret3 J.out, Below.refl _ _⟩
  · have h8' : ¬ (8 : Int) < (n : Int) := by omega
    have J : Hid (joinW R M = jn (R.zip M) 0 1) := Lib.hid (by unfold joinW; rw [L.out.1, L.out.2, ← HN.out, if_neg h8])
    go_enter Try.func14, Try.ntmps14
    go_wp2_with fail
    clear hif
    go_loopw [4, 5, 22] (fun vx va i wr => ∃ (k : Nat) (x all : Int), k ≤ n ∧ i = .int .i64 k ∧ vx = .int .i64 x ∧ va = .int .i64 all ∧ (0 ≤ x ∧ x < all ∧ all ≤ 4611686018427387904) ∧ jn ((R.zip M).drop k) x all = jn (R.zip M) 0 1 ∧ Below w.heap.size w wr) (fun _ _ i _ => n - (intOf i).toNat)
    case atStart => exact ⟨0, 0, 1, Nat.zero_le _, rfl, rfl, rfl, by omega, rfl, Below.refl _ _⟩
    case round =>
      obtain ⟨k, x, all, hk, rfl, rfl, rfl, ⟨x0, x1, x2⟩, hj, hb⟩ := hrel
      have HJ := Lib.hid hj
      have HB := Lib.hid hb
      have zz := hb.size
      clear hj hb
      by_cases hlt : k < n
      · have hk64 : (k : Int) < (n : Int) := by omega
        have q1 : (k : Int) < (n1 : Int) := by have := HN.out; omega
        have q2 : (k : Int) < (n2 : Int) := by have := HN.out; omega
        obtain ⟨b1, o1, r, rfl, hb1, e1, d1, r1, r2⟩ := S1.out.at (k := k) (by omega)
        obtain ⟨b2, o2, m, rfl, hb2, e2, d2, m1, m2⟩ := S2.out.at (k := k) (by omega)
        have Z := Lib.hid (zip_drop e1 e2)
        have MB := Lib.hid (HMB.out m (List.mem_of_getElem? e2))
        have D1 : wr.cell? ⟨b1, o1 + k, none⟩ = some (.int .i64 r) := (HB.out.cell (p := ⟨b1, o1 + k, none⟩) hb1).trans d1
        have D2 : wr.cell? ⟨b2, o2 + k, none⟩ = some (.int .i64 m) := (HB.out.cell (p := ⟨b2, o2 + k, none⟩) hb2).trans d2
        clear d1 d2 e1 e2
        by_cases g1 : m < 1
        · go_wp2_with fail
          refine bodyPost_ret (v := ?_) ?_ rfl ?_
          rotate_left
          · simp [results, Try.results14, go_sem]; rfl
          · exact ⟨ret3 (by rw [J.out, ← HJ.out, Z.out, jn_bad (.inl g1)]), HB.out⟩
        · by_cases g2 : 1099511627776 < m
          · go_wp2_with fail
            refine bodyPost_ret (v := ?_) ?_ rfl ?_
            rotate_left
            · simp [results, Try.results14, go_sem]; rfl
            · exact ⟨ret3 (by rw [J.out, ← HJ.out, Z.out, jn_bad (.inr g2)]), HB.out⟩
          · have f1 : 1 ≤ m ∧ m ≤ 1099511627776 := by omega
            obtain ⟨f0, f2, f3, f4, f5, f6, f7, f8⟩ := round_facts (r := r) x0 x1 x2 (show 1 ≤ m by omega) (by omega)
            have FL : Hid (lack x r m = r % m - x % m) := rfl
            have FO : Hid (own all m = m / (gcdR all m).g) := rfl
            go_wp2_with fail
            refine (euclid_walk all m _ (by omega) (by omega) (by omega) (by omega)).mono ?_; rintro e w1 ⟨rfl, bb⟩
            have D1' : w1.cell? ⟨b1, o1 + k, none⟩ = some (.int .i64 r) := (bb.cell (p := ⟨b1, o1 + k, none⟩) (show b1 < _ by omega)).trans D1
            have D2' : w1.cell? ⟨b2, o2 + k, none⟩ = some (.int .i64 m) := (bb.cell (p := ⟨b2, o2 + k, none⟩) (show b2 < _ by omega)).trans D2
            have HB1 := Lib.hid (HB.out.trans (bb.mono zz))
            have zz1 := bb.size
            clear D1 D2 bb
            go_wp2_with (refine wpList_store_new rfl (ty := 42) (x := .tmp 9) (y := .tmp 42) rfl (g := w1.heap.size) rfl rfl (t := 42) (old := rowA ⟨0, 0, 0⟩) (by rw [al, if_pos rfl]; rfl) (by kernel_rfl) rfl (by simp [Value.oneCell', rowA]) (B := w1.heap.size) (w0 := w1) (by (repeat' (first | exact Below.refl _ _ | refine below_drewN ?_ _ | refine Below.setCell ?_ (by first | exact Nat.le_refl _ | (simp; done) | (simp; omega)) _ | refine Below.alloc ?_ (by first | exact Nat.le_refl _ | (simp; done) | (simp; omega)) _))) (Nat.le_refl _) ?_; intro w4 hg4 hb4 hz4 ho4; obtain ⟨p0, p1, p2⟩ := BlE.cells (show BlE w4 w1.heap.size (gcdR all m) from hg4); have D1 := (hb4.cell (p := ⟨b1, o1 + k, none⟩) (show b1 < w1.heap.size by omega)).trans D1'; have D2 := (hb4.cell (p := ⟨b2, o2 + k, none⟩) (show b2 < w1.heap.size by omega)).trans D2'; have HB4 := Lib.hid (HB1.out.trans (hb4.mono (by omega))); have zz4 := hb4.size; have zg := (Array.getElem?_eq_some_iff.1 hg4).1; clear hg4 hb4 hz4 ho4 D1' D2' HB1 p2)
            have t1 : x.tmod m = x % m := Int.tmod_eq_emod_of_nonneg x0
            have hm0 := Int.emod_nonneg x (show m ≠ 0 by omega)
            have hm1 := Int.emod_lt_of_pos x (show 0 < m by omega)
            have hwx : wrap64 (x % m) = x % m := wrap_self (by omega) (by omega)
            have hwl : wrap64 (r % m - x % m) = lack x r m := by rw [← FL.out]; exact wrap_self (by omega) (by omega)
            have X1 : 1 ≤ m := by omega
            have X0 : ¬ m = 0 := by omega
            have X2 : m ≤ 9223372036854775807 := by omega
            have zb1 : b1 < w4.heap.size := by omega
            have zb2 : b2 < w4.heap.size := by omega
            refine wp_region_G (TM r m) (by kernel_rfl) (by kernel_rfl) ?_
            repeat' (refine wpG_step' (fun K hA hK => ?_); go_simp; first | (refine bothG_value hA (v := ?_) (fun w' hw' => ?_) ?_; rotate_left; (· go_simp; rfl); (refine hK _ _ ?_; clear hK hA K)) | (refine bothG_call (f := 27) (args := ?_) (fun w' => ?_) (fun w' _ => ?_) ?_; rotate_left; (· go_simp; rfl); (· exact tm_a r1 r2 X1 X2 _); (intro u xw hu; obtain rfl := hu.a rfl rfl; clear hu; refine hK _ _ ?_; clear hK hA K)))
            refine wpG_nil ?_
            intro w5 hb5 hF
            have HB5 := Lib.hid (HB4.out.trans (hb5.mono (by omega)))
            have D2' := (hb5.cell (p := ⟨b2, o2 + k, none⟩) (show b2 < w4.heap.size by omega)).trans D2
            have P1' := (hb5.cell (p := ⟨w1.heap.size, 1, none⟩) (show w1.heap.size < w4.heap.size by omega)).trans p1
            have zz5 := hb5.size
            clear hF hb5 D2 p1 p0 HB4
            clear hm0 hm1 hwx t1 D1 m1 m2 r1 r2 X1 X2
            rw [show IntKind.i64.wrap (r % m - x % m) = lack x r m by rw [← hwl, IntKind.wrap_i64]; unfold wrap64; omega]
            clear hwl
            by_cases hz : lack x r m % (gcdR all m).g = 0
            · have ht : (lack x r m).tmod (gcdR all m).g = 0 := Int.tmod_eq_zero_of_dvd (Int.dvd_of_emod_eq_zero hz)
              have ho : m.tdiv (gcdR all m).g = own all m := by rw [FO.out]; exact Int.tdiv_eq_ediv_of_nonneg (by omega)
              have ho2 : m / (gcdR all m).g = own all m := FO.out.symm
              have hwo : wrap64 (own all m) = own all m := wrap_self (by omega) (by omega)
              have hq : Int.tdiv 4611686018427387904 (own all m) = 4611686018427387904 / own all m := Int.tdiv_eq_ediv_of_nonneg (by omega)
              have hq0 : 0 ≤ 4611686018427387904 / own all m := Int.ediv_nonneg (by omega) (by omega)
              have hq1 : 4611686018427387904 / own all m ≤ 4611686018427387904 := Int.ediv_le_self _ (by omega)
              have hwq : wrap64 (4611686018427387904 / own all m) = 4611686018427387904 / own all m := wrap_self (by omega) (by omega)
              by_cases hl : 4611686018427387904 / own all m < all
              · go_wp2_with fail
                refine bodyPost_ret (v := ?_) ?_ rfl ?_
                rotate_left
                · simp [results, Try.results14, go_sem]; rfl
                · exact ⟨ret3 (by rw [J.out, ← HJ.out, Z.out, jn_long (by omega) hz hl]), by first | exact HB5.out | exact below_drewN HB5.out _⟩
              · have hl0 := Lib.hid hl
                obtain ⟨u1, u2, u3⟩ := lack_div x0 x1 x2 f1.1 f1.2 hz
                have JS := Lib.hid (join_step (r := r) x0 x1 x2 f1.1 f1.2 hz)
                have JA : Hid (all * own all m ≤ 4611686018427387904) := Lib.hid (by
                  have a2 := Int.mul_le_mul_of_nonneg_right (show all ≤ 4611686018427387904 / own all m by omega) (show 0 ≤ own all m by omega)
                  have a3 := Int.ediv_mul_le 4611686018427387904 (show own all m ≠ 0 by omega)
                  omega)
                have TT : Hid (tms x all r m = lack x r m / (gcdR all m).g % own all m * ((gcdR all m).x % own all m) % own all m) := rfl
                go_wp2_with fail
                clear hq hq0 hq1 hwq hl ht ho ho2
                obtain ⟨T, hT⟩ : ∃ T, lack x r m / (gcdR all m).g = T := ⟨_, rfl⟩
                rw [hT] at u1 u2 u3
                have HT := Lib.hid hT
                clear hT
                have hwT := wrap_i (z := T) (by omega) (by omega)
                have Y0 : ¬ (gcdR all m).g = 0 := by omega
                have Y1 : -9223372036854775808 ≤ T := by omega
                have Y2 : T ≤ 9223372036854775807 := by omega
                have Y3 : own all m ≤ 9223372036854775807 := by omega
                have Y4 : own all m ≤ B := by rcases MB.out with h | h <;> omega
                have zg5 : w1.heap.size < w5.heap.size := by omega
                refine wp_region_G (TJ T (gcdR all m).x (own all m)) (by kernel_rfl) (by kernel_rfl) ?_
                repeat' (refine wpG_step' (fun K hA hK => ?_); go_simp; first | (refine bothG_value hA (v := ?_) (fun w' hw' => ?_) ?_; rotate_left; (· go_simp; rfl); (refine hK _ _ ?_; clear hK hA K)) | (refine bothG_call (f := 27) (args := ?_) (fun w' => ?_) (fun w' _ => ?_) ?_; rotate_left; (· go_simp; rfl); (· exact tj_a Y1 Y2 f3 Y3 _); (intro u xw hu; obtain rfl := hu.a rfl rfl; clear hu; refine hK _ _ ?_; clear hK hA K)) | (refine bothG_call (f := 27) (args := ?_) (fun w' => ?_) (fun w' _ => ?_) ?_; rotate_left; (· go_simp; rfl); (· exact tj_b f7 f8 f3 Y3 _); (intro u xw hu; obtain rfl := hu.b rfl rfl; clear hu; refine hK _ _ ?_; clear hK hA K)) | (refine bothG_call (f := 28) (args := ?_) (fun w' => ?_) (fun w' _ => ?_) ?_; rotate_left; (· go_simp; rfl); (· exact tj_c hD hB f3 Y4 _); (intro u xw hu; obtain rfl := hu.c rfl; clear hu; refine hK _ _ ?_; clear hK hA K)))
                refine wpG_nil ?_
                intro w6 hb6 hF
                have HB6 := Lib.hid (HB5.out.trans (hb6.mono (by omega)))
                have zz6 := hb6.size
                clear hF hb6 P1' HB5
                rw [show T % own all m * ((gcdR all m).x % own all m) % own all m = tms x all r m by rw [TT.out, HT.out]]
                obtain ⟨v1, v2, v3, v4, v5, v6, v7⟩ := JS.out
                have v0 : 0 ≤ tms x all r m := by rw [TT.out]; exact Int.emod_nonneg _ (by omega)
                have v8 : 0 ≤ all * tms x all r m := Int.mul_nonneg (by omega) v0
                have v9 := JA.out
                have k1 : wrap64 (all * tms x all r m) = all * tms x all r m := wrap_self (by omega) (by omega)
                have k2 : wrap64 (x + all * tms x all r m) = x + all * tms x all r m := wrap_self (by omega) (by omega)
                have k3 : wrap64 (all * own all m) = all * own all m := wrap_self (by omega) (by omega)
                have V : Hid ((0 ≤ x + all * tms x all r m ∧ x + all * tms x all r m < all * own all m ∧ all * own all m ≤ 4611686018427387904)) := Lib.hid ⟨v1, v2, v9⟩
                have G : Hid (jn ((R.zip M).drop (k + 1)) (x + all * tms x all r m) (all * own all m) = jn (R.zip M) 0 1) := Lib.hid (by rw [← HJ.out, Z.out, jn_go (by omega) hz (by have := hl0.out; omega)])
                clear v1 v2 v3 v4 v5 v6 v7 v0 v8 v9 u1 u2 u3
                go_wp2_with fail
                go_roundw
                case rel => exact ⟨k + 1, _, _, by omega, by go_num, rfl, rfl, by first | exact V.out | (rw [k2, k3]; exact V.out), by first | exact G.out | (rw [k2, k3]; exact G.out), HB6.out⟩
                case measure => simp [intOf]; omega
            · have ht : ¬ (lack x r m).tmod (gcdR all m).g = 0 := fun h => hz (Int.emod_eq_zero_of_dvd (Int.dvd_of_tmod_eq_zero h))
              go_wp2_with fail
              refine bodyPost_ret (v := ?_) ?_ rfl ?_
              rotate_left
              · simp [results, Try.results14, go_sem]; rfl
              · exact ⟨ret3 (by rw [J.out, ← HJ.out, Z.out, jn_unlike (by omega) hz]), by first | exact HB5.out | exact below_drewN HB5.out _⟩
      · obtain rfl : k = n := by omega
        have E : Hid (joinW R M = (x, all, 0)) := Lib.hid (by
          rw [J.out, ← HJ.out, zip_drop_end (by have := HN.out; have := L.out; omega)]; rfl)
        go_wp2_with fail
        refine bodyPost_ret (v := ?_) ?_ rfl ?_
        rotate_left
        · simp [results, Try.results14, go_sem]; rfl
        · exact ⟨ret3 E.out, HB.out⟩
end Go.Proofs.Ytepoionjcjgnjaa
