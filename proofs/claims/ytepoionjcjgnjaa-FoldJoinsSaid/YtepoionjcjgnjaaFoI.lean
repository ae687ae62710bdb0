import Derived.Test.YtepoionjcjgnjaaFoO
set_option autoImplicit false
set_option linter.unusedVariables false
namespace Go.Proofs.Ytepoionjcjgnjaa
open Go.RowKit Lk Fo
set_option maxHeartbeats 4000000 in
theorem rbest_walk (a1 a2 : Option Addr) (n1 n2 c1 c2 : Nat) (R M : List Int) (most : Int) (w : World) (s1 : Sl w a1 n1 c1 R) (s2 : Sl w a2 n2 c2 M) (f3 : -9223372036854775808 ≤ most) (f4 : most ≤ 9223372036854775807) :
    Calls Try.prog 22 #[.slice a1 n1 c1, .slice a2 n2 c2, .int .i64 most] w (fun e w' => e = .returned (.tuple #[.int .i64 (bestW R M most).1, .int .i64 (bestW R M most).2.1, .int .i64 (bestW R M most).2.2]) ∧ Below w.heap.size w w') := by
  have S := Lib.hid (And.intro s1 s2)
  clear s1 s2
  go_enter Try.func22, Try.ntmps22
  go_wp2_with fail
  refine (bad_walk a1 a2 n1 n2 c1 c2 R M w S.out.1 S.out.2).mono ?_; rintro e w1 ⟨rfl, hb⟩
  by_cases hr : readyE R M = 0
  · have hrr := hr
    rw [hr]
    have HR := Lib.hid hr
    have HB := Lib.hid hb
    have OK := Lib.hid (okm_zip (readyE_ok hr))
    have zz := hb.size
    clear hr hrr hb
    by_cases g2 : most < 1
    · have E : Hid (bestW R M most = (0, 0, 2)) := Lib.hid (by unfold bestW; rw [if_neg (by simp [HR.out]), if_pos g2])
      go_wp2_with fail
      refine bodyPost_ret (v := ?_) ?_ rfl ?_
      rotate_left
      · simp [results, Try.results22, go_sem]; rfl
      · exact ⟨ret3' E.out, HB.out⟩
    · by_cases g3 : 4194304 < most
      · have E : Hid (bestW R M most = (0, 0, 3)) := Lib.hid (by unfold bestW; rw [if_neg (by simp [HR.out]), if_neg g2, if_pos g3])
        go_wp2_with fail
        refine bodyPost_ret (v := ?_) ?_ rfl ?_
        rotate_left
        · simp [results, Try.results22, go_sem]; rfl
        · exact ⟨ret3' E.out, HB.out⟩
      · have E : Hid (bestW R M most = ((bst (R.zip M) most.toNat).1, (bst (R.zip M) most.toNat).2, 0)) := Lib.hid (by unfold bestW; rw [if_neg (by simp [HR.out]), if_neg g2, if_neg g3])
        go_wp2_with fail
        refine (count_walk a1 a2 n1 n2 c1 c2 _).mono ?_; rintro e w2 ⟨rfl, rfl⟩
        obtain ⟨n, hn⟩ : ∃ n, n = min n1 n2 := ⟨_, rfl⟩
        rw [← hn]
        have HN := Lib.hid hn
        have HL1 := Lib.hid S.out.1.len
        have HL2 := Lib.hid S.out.2.len
        have sm1 := S.out.1.small
        have sm2 := S.out.2.small
        clear hn
        go_wp2_with fail
        go_loopw [6, 7, 10] (fun u o i wr => ∃ (k : Nat) (x d : Int), (k : Int) ≤ most ∧ i = .int .i64 k ∧ u = .int .i64 x ∧ o = .int .i64 d ∧ ((k = 0 ∧ x = 0 ∧ d = 9223372036854775807) ∨ (0 < k ∧ bst (R.zip M) k = (x, d))) ∧ Below w1.heap.size w1 wr) (fun _ _ i _ => most.toNat - (intOf i).toNat)
        case atStart => exact ⟨0, 0, _, by omega, rfl, rfl, rfl, .inl ⟨rfl, rfl, rfl⟩, Below.refl _ _⟩
        case round =>
          obtain ⟨k, x, d, hk, rfl, rfl, rfl, hs, hb⟩ := hrel
          have HS := Lib.hid hs
          have H2 := Lib.hid hb
          have z2 := hb.size
          clear hs hb
          by_cases hlt : (k : Int) < most
          · go_wp2_with fail
            go_loopw [11, 12] (fun vs vi wr2 => ∃ (j : Nat) (t : Int), j ≤ n ∧ vi = .int .i64 j ∧ vs = .int .i64 t ∧ farL k ((R.zip M).drop j) t = farL k (R.zip M) 0 ∧ Below wr.heap.size wr wr2) (fun _ vi _ => n - (intOf vi).toNat)
            case atStart => exact ⟨0, 0, Nat.zero_le _, rfl, rfl, rfl, Below.refl _ _⟩
            case round =>
              obtain ⟨j, t, hj, rfl, rfl, ht, hb2⟩ := hrel
              have HT := Lib.hid ht
              have HB2 := Lib.hid hb2
              have zz2 := hb2.size
              clear ht hb2
              by_cases hjn : j < n
              · have hjn64 : (j : Int) < (n : Int) := by omega
                have q1 : (j : Int) < (n1 : Int) := by have := HN.out; omega
                have q2 : (j : Int) < (n2 : Int) := by have := HN.out; omega
                obtain ⟨bb1, oo1, r, rfl, hbb1, e1, d1, r1, r2⟩ := (S.out.1.keep (HB.out.trans ((H2.out.trans (HB2.out.mono z2)).mono zz))).at (k := j) (by omega)
                obtain ⟨bb2, oo2, mm, rfl, hbb2, e2, d2, mm1, mm2⟩ := (S.out.2.keep (HB.out.trans ((H2.out.trans (HB2.out.mono z2)).mono zz))).at (k := j) (by omega)
                have Z := Lib.hid (zip_drop e1 e2)
                obtain ⟨mo1, mo2⟩ := OK.out (r, mm) (List.mem_of_getElem? (zip_at e1 e2))
                simp only at mo1 mo2
                clear e1 e2
                go_wp2_with fail
                refine wp_region_G (TF k r mm) (by kernel_rfl) (by kernel_rfl) ?_
                repeat' (refine wpG_step' (fun K hA hK => ?_); go_simp; first | (refine bothG_value hA (v := ?_) (fun w' hw' => ?_) ?_; rotate_left; (· go_simp; rfl); (refine hK _ _ ?_; clear hK hA K)) | (refine bothG_call (f := 35) (args := ?_) (fun w' => ?_) (fun w' _ => ?_) ?_; rotate_left; (· go_simp; rfl); (· exact tf_a (by omega) (by omega) r1 r2 mo1 mo2 _); (intro u xw hu; obtain rfl := hu.a rfl; clear hu; refine hK _ _ ?_; clear hK hA K)))
                refine wpG_nil ?_
                intro w7 hb7 hF
                have HB7 := Lib.hid (HB2.out.trans (hb7.mono zz2))
                clear hF hb7 d1 d2
                go_wp2_with fail
                go_roundw
                case rel =>
                  refine ⟨j + 1, max t (frD k r mm), by omega, by go_num, ?_, ?_, HB7.out⟩
                  · simp only [max_form]
                  · rw [← HT.out, Z.out]; rfl
                case measure => simp [intOf]; omega
              · obtain rfl : j = n := by omega
                have HF : Hid (farL k (R.zip M) 0 = t) := Lib.hid (by
                  rw [← HT.out, zip_drop_end (by have := HN.out; have := HL1.out; have := HL2.out; omega)]; rfl)
                have BD := Lib.hid (farL_bounds k (R.zip M) 0 OK.out (by omega) (by omega))
                have H3 := Lib.hid (H2.out.trans (HB2.out.mono z2))
                by_cases hf : t < d
                · have NN : Hid (bst (R.zip M) (k + 1) = ((k : Int), t)) := Lib.hid (by
                    rcases HS.out with ⟨h1, h2, h3⟩ | ⟨h1, h2⟩
                    · subst h1
                      rw [bst_no (by show ¬ farL ((0 : Nat) : Int) (R.zip M) 0 < farL 0 (R.zip M) 0; exact Int.lt_irrefl _), ← HF.out]
                      rfl
                    · rw [bst_yes (by rw [HF.out, h2]; exact hf), HF.out])
                  go_wp2_with fail
                  go_roundw
                  case rel => exact ⟨k + 1, k, t, by omega, by go_num, rfl, rfl, .inr ⟨by omega, NN.out⟩, H3.out⟩
                  case measure => simp [intOf]; omega
                · have NN : Hid (0 < k ∧ bst (R.zip M) (k + 1) = (x, d)) := Lib.hid (by
                    rcases HS.out with ⟨h1, h2, h3⟩ | ⟨h1, h2⟩
                    · exfalso; have := BD.out; rw [HF.out] at this; omega
                    · exact ⟨h1, by rw [bst_no (by rw [HF.out, h2]; exact hf), h2]⟩)
                  go_wp2_with fail
                  go_roundw
                  case rel => exact ⟨k + 1, x, d, by omega, by go_num, rfl, rfl, .inr ⟨by omega, NN.out.2⟩, H3.out⟩
                  case measure => simp [intOf]; omega
          · obtain rfl : (k : Int) = most := by omega
            have E2 : Hid (bestW R M k = (x, d, 0)) := Lib.hid (by
              rcases HS.out with ⟨h1, _, _⟩ | ⟨_, h2⟩
              · exfalso; omega
              · rw [E.out, Int.toNat_natCast, h2])
            go_wp2_with fail
            refine bodyPost_ret (v := ?_) ?_ rfl ?_
            rotate_left
            · simp [results, Try.results22, go_sem]; rfl
            · exact ⟨ret3' E2.out, HB.out.trans (H2.out.mono zz)⟩
  · have E : Hid (bestW R M most = (0, 0, readyE R M)) := Lib.hid (by unfold bestW; rw [if_pos hr])
    go_wp2_with fail
    refine bodyPost_ret (v := ?_) ?_ rfl ?_
    rotate_left
    · simp [results, Try.results22, go_sem]; rfl
    · exact ⟨ret3' E.out, hb⟩
end Go.Proofs.Ytepoionjcjgnjaa
