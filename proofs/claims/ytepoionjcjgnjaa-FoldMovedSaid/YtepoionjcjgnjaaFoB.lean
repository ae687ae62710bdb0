import Derived.Test.YtepoionjcjgnjaaFoQ
set_option autoImplicit false
set_option linter.unusedVariables false
namespace Go.Proofs.Ytepoionjcjgnjaa
open Go.RowKit Lk Fo
/-- the nearest so far -/
def bst (L : List (Int × Int)) : Nat → Int × Int
  | 0 => (0, farL 0 L 0)
  | k + 1 => if farL k L 0 < (bst L k).2 then ((k : Int), farL k L 0) else bst L k
def bestW (R M : List Int) (most : Int) : Int × Int × Int :=
  if readyE R M ≠ 0 then (0, 0, readyE R M) else if most < 1 then (0, 0, 2) else if 4194304 < most then (0, 0, 3)
  else ((bst (R.zip M) most.toNat).1, (bst (R.zip M) most.toNat).2, 0)
theorem bst_yes {L : List (Int × Int)} {k : Nat} (h : farL k L 0 < (bst L k).2) : bst L (k + 1) = ((k : Int), farL k L 0) := by rw [bst, if_pos h]
theorem bst_no {L : List (Int × Int)} {k : Nat} (h : ¬ farL k L 0 < (bst L k).2) : bst L (k + 1) = bst L k := by rw [bst, if_neg h]
theorem ret3' {a b c : Int} {t : Int × Int × Int} (h : t = (a, b, c)) : Ending.returned (.tuple #[.int .i64 a, .int .i64 b, .int .i64 c]) = .returned (.tuple #[.int .i64 t.1, .int .i64 t.2.1, .int .i64 t.2.2]) := by rw [h]
set_option maxHeartbeats 4000000 in
theorem best_walk (a1 a2 : Option Addr) (n1 n2 c1 c2 : Nat) (R M : List Int) (most : Int) (w : World) (s1 : Sl w a1 n1 c1 R) (s2 : Sl w a2 n2 c2 M) (f3 : -9223372036854775808 ≤ most) (f4 : most ≤ 9223372036854775807) :
    Calls Try.prog 21 #[.slice a1 n1 c1, .slice a2 n2 c2, .int .i64 most] w (fun e w' => e = .returned (.tuple #[.int .i64 (bestW R M most).1, .int .i64 (bestW R M most).2.1, .int .i64 (bestW R M most).2.2]) ∧ Below w.heap.size w w') := by
  have S := Lib.hid (And.intro s1 s2)
  clear s1 s2
  go_enter Try.func21, Try.ntmps21
  go_wp2_with fail
  refine (ready_walk a1 a2 n1 n2 c1 c2 R M w S.out.1 S.out.2).mono ?_; rintro e w1 ⟨v, rfl, hp, hb⟩
  by_cases hr : readyE R M = 0
  · have hrr := hr
    rw [hr]
    have P := Lib.hid (hp hr)
    have HR := Lib.hid hr
    have HB := Lib.hid hb
    have OK := Lib.hid (okr_rdy (readyE_ok hr))
    have zz := hb.size
    clear hp hr hrr hb
    by_cases g2 : most < 1
    · have E : Hid (bestW R M most = (0, 0, 2)) := Lib.hid (by unfold bestW; rw [if_neg (by simp [HR.out]), if_pos g2])
      go_wp2_with fail
      refine bodyPost_ret (v := ?_) ?_ rfl ?_
      rotate_left
      · simp [results, Try.results21, go_sem]; rfl
      · exact ⟨ret3' E.out, HB.out⟩
    · by_cases g3 : 4194304 < most
      · have E : Hid (bestW R M most = (0, 0, 3)) := Lib.hid (by unfold bestW; rw [if_neg (by simp [HR.out]), if_neg g2, if_pos g3])
        go_wp2_with fail
        refine bodyPost_ret (v := ?_) ?_ rfl ?_
        rotate_left
        · simp [results, Try.results21, go_sem]; rfl
        · exact ⟨ret3' E.out, HB.out⟩
      · have E : Hid (bestW R M most = ((bst (R.zip M) most.toNat).1, (bst (R.zip M) most.toNat).2, 0)) := Lib.hid (by unfold bestW; rw [if_neg (by simp [HR.out]), if_neg g2, if_neg g3])
        go_wp2_with fail
        refine (far_walk 0 v (rdy (R.zip M)) w1 (by omega) (by omega) P.out OK.out).mono ?_; rintro e w2 ⟨rfl, b2⟩
        rw [farL_rdy]
        have H0 := Lib.hid b2
        clear b2
        go_wp2_with fail
        go_loopw [6, 7, 31] (fun u o i wr => ∃ (k : Nat) (x d : Int), (k : Int) ≤ most ∧ i = .int .i64 k ∧ u = .int .i64 x ∧ o = .int .i64 d ∧ bst (R.zip M) k = (x, d) ∧ Below w1.heap.size w1 wr) (fun _ _ i _ => most.toNat - (intOf i).toNat)
        case atStart => exact ⟨0, 0, _, by omega, rfl, rfl, rfl, rfl, H0.out⟩
        case round =>
          clear H0
          obtain ⟨k, x, d, hk, rfl, rfl, rfl, hs, hb⟩ := hrel
          have HS := Lib.hid hs
          have H2 := Lib.hid hb
          have z2 := hb.size
          clear hs hb
          by_cases hlt : (k : Int) < most
          · go_wp2_with fail
            refine (far_walk k v (rdy (R.zip M)) wr (by omega) (by omega) (P.out.keep H2.out) OK.out).mono ?_; rintro e w3 ⟨rfl, b3⟩
            rw [farL_rdy]
            have H3 := Lib.hid (H2.out.trans (b3.mono z2))
            clear b3 H2
            obtain ⟨fv, hfv⟩ : ∃ fv, farL k (R.zip M) 0 = fv := ⟨_, rfl⟩
            rw [hfv]
            have HF := Lib.hid hfv
            clear hfv
            by_cases hf : fv < d
            · have NN : Hid (bst (R.zip M) (k + 1) = ((k : Int), fv)) := Lib.hid (by rw [bst_yes (by rw [HF.out, HS.out]; exact hf), HF.out])
              go_wp2_with fail
              go_roundw
              case rel => exact ⟨k + 1, k, fv, by omega, by go_num, rfl, rfl, NN.out, H3.out⟩
              case measure => simp [intOf]; omega
            · have NN : Hid (bst (R.zip M) (k + 1) = (x, d)) := Lib.hid (by rw [bst_no (by rw [HF.out, HS.out]; exact hf), HS.out])
              go_wp2_with fail
              go_roundw
              case rel => exact ⟨k + 1, x, d, by omega, by go_num, rfl, rfl, NN.out, H3.out⟩
              case measure => simp [intOf]; omega
          · obtain rfl : (k : Int) = most := by omega
            have E2 : Hid (bestW R M k = (x, d, 0)) := Lib.hid (by rw [E.out, Int.toNat_natCast, HS.out])
            go_wp2_with fail
            refine bodyPost_ret (v := ?_) ?_ rfl ?_
            rotate_left
            · simp [results, Try.results21, go_sem]; rfl
            · exact ⟨ret3' E2.out, HB.out.trans (H2.out.mono zz)⟩
  · have E : Hid (bestW R M most = (0, 0, readyE R M)) := Lib.hid (by unfold bestW; rw [if_pos hr])
    go_wp2_with fail
    refine bodyPost_ret (v := ?_) ?_ rfl ?_
    rotate_left
    · simp [results, Try.results21, go_sem]; rfl
    · exact ⟨ret3' E.out, hb⟩
theorem ret4' {a b c d : Int} {t : Row × Int} (h : t = (⟨a, b, c⟩, d)) : Ending.returned (.tuple #[.int .i64 a, .int .i64 b, .int .i64 c, .int .i64 d]) = .returned (.tuple #[.int .i64 t.1.g, .int .i64 t.1.x, .int .i64 t.1.y, .int .i64 t.2]) := by rw [h]
/-- what Gcd answers -/
def gcdW (a b : Int) : Row × Int := if a < 0 ∨ b < 0 ∨ 1099511627776 < a ∨ 1099511627776 < b then (⟨0, 0, 0⟩, 2) else (gcdR a b, 0)
end Go.Proofs.Ytepoionjcjgnjaa
