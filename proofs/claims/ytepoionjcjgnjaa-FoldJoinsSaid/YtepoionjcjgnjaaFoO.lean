import Derived.Test.YtepoionjcjgnjaaFoH
set_option autoImplicit false
set_option linter.unusedVariables false
namespace Go.Proofs.Ytepoionjcjgnjaa
open Go.RowKit Lk Fo
theorem far_all {x off : Int} : ∀ (l : List (Int × Int)) (s : Int), farL x l s ≤ off ↔ s ≤ off ∧ ∀ p ∈ l, frD x p.1 p.2 ≤ off
  | [], s => by simp [farL]
  | (r, m) :: l, s => by
    show farL x l (max s (frD x r m)) ≤ off ↔ _
    rw [far_all l]
    simp only [List.mem_cons, forall_eq_or_imp]
    constructor
    · rintro ⟨h1, h2⟩; exact ⟨by omega, by omega, h2⟩
    · rintro ⟨h1, h2, h3⟩; exact ⟨by omega, h3⟩
structure TF (x r m : Int) (f : FuncId) (args : Array Value) (u : Value) (w : World) : Prop where
  a : f = 35 → u = .int .i64 (frD x r m)
theorem tf_a {x r m : Int} (x1 : -9223372036854775808 ≤ x) (x2 : x ≤ 9223372036854775807) (r1 : -9223372036854775808 ≤ r) (r2 : r ≤ 9223372036854775807) (m1 : 1 ≤ m) (m2 : m ≤ 1099511627776) (w : World) : Calls Try.prog 35 #[.int .i64 x, .int .i64 r, .int .i64 m] w (fun e' w'' => ∃ u, e' = .returned u ∧ TF x r m 35 #[.int .i64 x, .int .i64 r, .int .i64 m] u w'' ∧ Ext w w'') :=
  (rfar_walk x r m w x1 x2 r1 r2 m1 m2).mono fun e' w' ⟨he, hb⟩ => ⟨_, he, ⟨fun _ => rfl⟩, by rw [← hb]; exact Ext.refl _⟩
theorem okm_zip {l : List (Int × Int)} (h : badM l = false) : Okm l := by
  unfold badM at h
  rw [List.any_eq_false] at h
  intro p hp
  have := h p hp
  simp only [decide_eq_true_eq] at this
  omega
set_option maxHeartbeats 4000000 in
theorem rnear_walk (a1 a2 : Option Addr) (n1 n2 c1 c2 : Nat) (R M : List Int) (off most : Int) (w : World) (s1 : Sl w a1 n1 c1 R) (s2 : Sl w a2 n2 c2 M) (f1 : -9223372036854775808 ≤ off) (f2 : off ≤ 9223372036854775807) (f3 : -9223372036854775808 ≤ most) (f4 : most ≤ 9223372036854775807) :
    Calls Try.prog 18 #[.slice a1 n1 c1, .slice a2 n2 c2, .int .i64 off, .int .i64 most] w (fun e w' => ∃ v, e = .returned (.tuple #[v, .int .i64 (nearW R M off most).2]) ∧ w'.ownsRow w.heap.size 2 1 v (nearW R M off most).1.length (ints (nearW R M off most).1) ∧ Below w.heap.size w w') := by
  obtain ⟨I, hi, hz, hsz, hby⟩ := info_parts int_info
  have S := Lib.hid (And.intro s1 s2)
  clear s1 s2
  go_enter Try.func18, Try.ntmps18
  go_wp2_with fail
  refine (bad_walk a1 a2 n1 n2 c1 c2 R M w S.out.1 S.out.2).mono ?_; rintro e w1 ⟨rfl, hb⟩
  by_cases hr : readyE R M = 0
  · have hrr := hr
    rw [hr]
    have HR := Lib.hid hr
    have HB := Lib.hid hb
    have OK := Lib.hid (okm_zip (readyE_ok hr))
    have zz := hb.size
    clear hr hrr hb
    by_cases g1 : off < 0
    · have E : Hid (nearW R M off most = ([], 2)) := Lib.hid (by unfold nearW; rw [if_neg (by simp [HR.out]), if_pos (.inl g1)])
      go_wp2_with fail
      refine bodyPost_ret (v := ?_) ?_ rfl ?_
      rotate_left
      · simp [results, Try.results18, go_sem]; rfl
      · exact ⟨_, ret2v (by rw [E.out]), owns_nil' (by rw [E.out]), HB.out⟩
    · by_cases g2 : most < 0
      · have E : Hid (nearW R M off most = ([], 2)) := Lib.hid (by unfold nearW; rw [if_neg (by simp [HR.out]), if_pos (.inr g2)])
        go_wp2_with fail
        refine bodyPost_ret (v := ?_) ?_ rfl ?_
        rotate_left
        · simp [results, Try.results18, go_sem]; rfl
        · exact ⟨_, ret2v (by rw [E.out]), owns_nil' (by rw [E.out]), HB.out⟩
      · by_cases g3 : 4194304 < most
        · have E : Hid (nearW R M off most = ([], 3)) := Lib.hid (by unfold nearW; rw [if_neg (by simp [HR.out]), if_neg (by omega), if_pos g3])
          go_wp2_with fail
          refine bodyPost_ret (v := ?_) ?_ rfl ?_
          rotate_left
          · simp [results, Try.results18, go_sem]; rfl
          · exact ⟨_, ret2v (by rw [E.out]), owns_nil' (by rw [E.out]), HB.out⟩
        · have E : Hid (nearW R M off most = if 65536 < (nearL (R.zip M) off most.toNat).length then ([], 3) else (nearL (R.zip M) off most.toNat, 0)) := Lib.hid (by unfold nearW; rw [if_neg (by simp [HR.out]), if_neg (by omega), if_neg g3])
          go_wp2_with fail
          refine (count_walk a1 a2 n1 n2 c1 c2 _).mono ?_; rintro e w2 ⟨rfl, rfl⟩
          obtain ⟨n, hn⟩ : ∃ n, n = min n1 n2 := ⟨_, rfl⟩
          rw [← hn]
          have HN := Lib.hid hn
          have HL1 := Lib.hid S.out.1.len
          have HL2 := Lib.hid S.out.2.len
          have sm1 := S.out.1.small
          have sm2 := S.out.2.small
          clear hn
          go_wp2_with fail
          go_loopw [8, 11] (fun u i wr => ∃ (k m : Nat), (k : Int) ≤ most ∧ i = .int .i64 k ∧ m ≤ 65536 ∧ (nearL (R.zip M) off k).length = m ∧ wr.ownsRow w1.heap.size 2 1 u m (ints (nearL (R.zip M) off k)) ∧ Below w1.heap.size w1 wr) (fun _ i _ => most.toNat - (intOf i).toNat)
          case atStart => exact ⟨0, 0, by omega, rfl, by omega, rfl, World.ownsRow_nil _ _ _ _, Below.refl _ _⟩
          case round =>
            obtain ⟨k, m, hk, rfl, hm, hl, ho, hb⟩ := hrel
            obtain ⟨ua, uc, rfl⟩ := owns_form ho
            have HL := Lib.hid hl
            have H2 := Lib.hid hb
            have z2 := hb.size
            clear hl hb
            by_cases hlt : (k : Int) < most
            · go_wp2_with fail
              go_loopw [12, 13] (fun vc vi wr2 => ∃ (j : Nat) (c : Bool), j ≤ n ∧ vi = .int .i64 j ∧ vc = .bool c ∧ (c = true → ∀ (h : Nat) (p : Int × Int), h < j → (R.zip M)[h]? = some p → frD k p.1 p.2 ≤ off) ∧ (c = false → off < farL k (R.zip M) 0) ∧ Below wr.heap.size wr wr2) (fun _ vi _ => n - (intOf vi).toNat)
              case atStart => exact ⟨0, true, Nat.zero_le _, rfl, rfl, (fun _ h p hj => absurd hj (Nat.not_lt_zero _)), (fun h => by cases h), Below.refl _ _⟩
              case round =>
                obtain ⟨j, c, hj, rfl, rfl, hc1, hc2, hb2⟩ := hrel
                have HC1 := Lib.hid hc1
                have HC2 := Lib.hid hc2
                have HB2 := Lib.hid hb2
                have zz2 := hb2.size
                clear hc1 hc2 hb2
                cases c with
                | false =>
                  have HF : Hid (off < farL k (R.zip M) 0) := Lib.hid (HC2.out rfl)
                  have NN : Hid (nearL (R.zip M) off (k + 1) = nearL (R.zip M) off k) := Lib.hid (near_no (by have := HF.out; omega))
                  have H3 := Lib.hid (H2.out.trans (HB2.out.mono z2))
                  have ho3 := ownsB ho HB2.out
                  by_cases hjn : j < n
                  · have hjn64 : (j : Int) < (n : Int) := by omega
                    go_wp2_with fail
                    go_roundw
                    case rel => exact ⟨k + 1, m, by omega, by go_num, hm, by rw [NN.out]; exact HL.out, by rw [NN.out]; exact ho3, H3.out⟩
                    case measure => simp [intOf]; omega
                  · have hjn64 : ¬ (j : Int) < (n : Int) := by omega
                    go_wp2_with fail
                    go_roundw
                    case rel => exact ⟨k + 1, m, by omega, by go_num, hm, by rw [NN.out]; exact HL.out, by rw [NN.out]; exact ho3, H3.out⟩
                    case measure => simp [intOf]; omega
                | true =>
                  by_cases hjn : j < n
                  · have hjn64 : (j : Int) < (n : Int) := by omega
                    have q1 : (j : Int) < (n1 : Int) := by have := HN.out; omega
                    have q2 : (j : Int) < (n2 : Int) := by have := HN.out; omega
                    obtain ⟨bb1, oo1, r, rfl, hbb1, e1, d1, r1, r2⟩ := (S.out.1.keep (HB.out.trans ((H2.out.trans (HB2.out.mono z2)).mono zz))).at (k := j) (by omega)
                    obtain ⟨bb2, oo2, mm, rfl, hbb2, e2, d2, mm1, mm2⟩ := (S.out.2.keep (HB.out.trans ((H2.out.trans (HB2.out.mono z2)).mono zz))).at (k := j) (by omega)
                    have Z := Lib.hid (zip_at e1 e2)
                    obtain ⟨mo1, mo2⟩ := OK.out (r, mm) (List.mem_of_getElem? Z.out)
                    simp only at mo1 mo2
                    clear e1 e2
                    go_wp2_with fail
                    refine wp_region_G (TF k r mm) (by kernel_rfl) (by kernel_rfl) ?_
                    repeat' (refine wpG_step' (fun K hA hK => ?_); go_simp; first | (refine bothG_value hA (v := ?_) (fun w' hw' => ?_) ?_; rotate_left; (· go_simp; rfl); (refine hK _ _ ?_; clear hK hA K)) | (refine bothG_call (f := 35) (args := ?_) (fun w' => ?_) (fun w' _ => ?_) ?_; rotate_left; (· go_simp; rfl); (· exact tf_a (by omega) (by omega) r1 r2 mo1 mo2 _); (intro u xw hu; obtain rfl := hu.a rfl; clear hu; refine hK _ _ ?_; clear hK hA K)))
                    refine wpG_nil ?_
                    intro w7 hb7 hF
                    have HB7 := Lib.hid (HB2.out.trans (hb7.mono zz2))
                    clear hF hb7 d1 d2
                    go_wp2_with fail
                    go_roundw
                    case rel =>
                      refine ⟨j + 1, decide (frD k r mm ≤ off), by omega, by go_num, rfl, fun hd h p hh hp => ?_, fun hd => ?_, HB7.out⟩
                      · by_cases hhj : h = j
                        · rw [hhj, Z.out] at hp; cases hp; exact of_decide_eq_true hd
                        · exact HC1.out (by first | rfl | trivial) h p (by omega) hp
                      · have g1 := of_decide_eq_false hd
                        apply Int.not_le.1
                        intro g2
                        exact g1 (((far_all _ _).1 g2).2 (r, mm) (List.mem_of_getElem? Z.out))
                    case measure => simp [intOf]; omega
                  · obtain rfl : j = n := by omega
                    have HF : Hid (farL k (R.zip M) 0 ≤ off) := Lib.hid ((far_all _ _).2 ⟨by omega, fun p hp => by
                      obtain ⟨h, hh⟩ := List.getElem?_of_mem hp
                      exact HC1.out rfl h p (by
                        have g1 := (List.getElem?_eq_some_iff.1 hh).1
                        rw [List.length_zip] at g1
                        have := HN.out
                        have := HL1.out
                        have := HL2.out
                        omega) hh⟩)
                    have H3 := Lib.hid (H2.out.trans (HB2.out.mono z2))
                    have ho3 := ownsB ho HB2.out
                    have z3 := zz2
                    obtain ⟨w3, hw3⟩ : ∃ w3, w3 = wr := ⟨_, rfl⟩
                    rw [← hw3] at H3 ho3 z3 ⊢
                    clear hw3
                    have NN : Hid (nearL (R.zip M) off (k + 1) = nearL (R.zip M) off k ++ [(k : Int)]) := Lib.hid (near_yes HF.out)
                    by_cases hmm : m = 65536
                    · have E2 : Hid (nearW R M off most = ([], 3)) := Lib.hid (by
                        rw [E.out, if_pos]
                        have := near_more (R.zip M) off (k + 1) (most.toNat - (k + 1))
                        rw [show k + 1 + (most.toNat - (k + 1)) = most.toNat by omega, NN.out, List.length_append, HL.out] at this
                        simp only [List.length_cons, List.length_nil] at this
                        omega)
                      subst hmm
                      go_wp2_with fail
                      refine bodyPost_ret (v := ?_) ?_ rfl ?_
                      rotate_left
                      · simp [results, Try.results18, go_sem]; rfl
                      · exact ⟨_, ret2v (by rw [E2.out]), owns_nil' (by rw [E2.out]), HB.out.trans (H3.out.mono zz)⟩
                    · have hmi : ¬ (m : Int) = 65536 := by omega
                      have hB3 : w1.heap.size ≤ w3.heap.size := by omega
                      go_wp2_with (refine wpList_append_own _ rfl (.tmp 60) (.tmp 62) 27 rfl w1.heap.size 2 I _ 1 8 und27 hi hz hsz hby rfl (by decide) _ m (ints (nearL (R.zip M) off k)) rfl (ho3.alloc _) ⟨w3.heap.size, 0, none⟩ 1 1 [.int .i64 k] rfl rfl (new1 w3 k) (one1 k) (by simp only [maxLen]; omega) (by omega) (by simp; omega) ?_; intro v' w4 ow gr _)
                      refine ⟨⟨k + 1, m + 1, by omega, by go_num, by omega, by rw [NN.out, List.length_append, HL.out]; rfl, by rw [NN.out, ints_snoc]; exact ow, grownB (H3.out.alloc hB3 _) gr (ho3.alloc _) (by simp; omega)⟩, by simp [intOf]; omega⟩
            · obtain rfl : (k : Int) = most := by omega
              go_wp2_with fail
              refine bodyPost_ret (v := ?_) ?_ rfl ?_
              rotate_left
              · simp [results, Try.results18, go_sem]; rfl
              · have e : nearW R M off k = (nearL (R.zip M) off k, 0) := by
                  rw [E.out, Int.toNat_natCast, if_neg (by rw [HL.out]; omega)]
                exact ⟨_, ret2v (by rw [e]), by rw [e, HL.out]; exact owns_low ho zz, HB.out.trans (H2.out.mono zz)⟩
  · have E : Hid (nearW R M off most = ([], readyE R M)) := Lib.hid (by unfold nearW; rw [if_pos hr])
    go_wp2_with fail
    refine bodyPost_ret (v := ?_) ?_ rfl ?_
    rotate_left
    · simp [results, Try.results18, go_sem]; rfl
    · exact ⟨_, ret2v (by rw [E.out]), owns_nil' (by rw [E.out]), hb⟩
end Go.Proofs.Ytepoionjcjgnjaa
