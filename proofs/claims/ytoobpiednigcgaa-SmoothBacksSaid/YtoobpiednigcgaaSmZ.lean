import Derived.Test.YtoobpiednigcgaaSmZ1
set_option autoImplicit false
set_option linter.unusedVariables false
namespace Go.Proofs.Ytoobpiednigcgaa
open Go.RowKit Lk
set_option maxRecDepth 100000 in
set_option maxHeartbeats 8000000 in
theorem rback_walk (a a' : Option Addr) (N M c c' : Nat) (L : List St) (S : List Nat) (q : Nat) (w : World) (s : Ss w a N c L) (s' : Fs w a' M c' S) :
    Calls Try.prog 12 #[.slice a N c, .slice a' M c', .float .f64 q] w (BackP L S q w) := by
  have n63 : N ≤ 9223372036854775807 := Nat.le_trans s.le s.small
  have m63 : M ≤ 9223372036854775807 := Nat.le_trans s'.le s'.small
  have S0 := Lib.hid (And.intro s s')
  have LL := Lib.hid s.len
  have LS := Lib.hid s'.len
  have R0 : backE L S q = if 1024 < N then 3 else if M ≠ N - 1 then 5 else if !(L.all mayF) then 6 else if !(okT q && S.all okT) then 6 else 0 := by
    unfold backE; rw [s.len, s'.len]
  clear s s'
  by_cases h1 : 1024 < N
  · have E : Hid (backE L S q = 3) := Lib.hid (by rw [if_pos h1] at R0; exact R0)
    clear R0
    go_enter Try.func12, Try.ntmps12
    go_wp2_with fail
    go_ret2
    exact backP_err E.out (by decide) (Below.refl _ _)
  · rw [if_neg h1] at R0
    by_cases h2 : M = N - 1
    · rw [if_neg (by simpa using h2)] at R0
      have mx : ((M : Int) != if 1 < (N : Int) then (N : Int) - 1 else 0) = false := by
        rw [bne_eq_false_iff_eq]; split <;> omega
      have HM := Lib.hid h2
      have R := Lib.hid R0
      clear R0 h2
      go_enter Try.func12, Try.ntmps12
      go_upto_region 3 with fail
      go_cut [22] (fun s22 wx => s22 = .bool false ∧ w = wx)
      case first =>
        go_wp2_with fail
        all_goals
          go_meet
          exact ⟨rfl, rfl⟩
      case rest =>
      obtain ⟨rfl, rfl⟩ := hcut
      clear mx
      go_wp2_with fail
      go_loopw [8] (fun i wr => ∃ k : Nat, k ≤ N ∧ i = .int .i64 k ∧ (L.take k).all mayF = true ∧ Below w.heap.size w wr) (fun i _ => N - (intOf i).toNat)
      case atStart => exact ⟨0, by omega, rfl, rfl, Below.refl _ _⟩
      case round =>
        obtain ⟨k, hk, rfl, hm, hp⟩ := hrel
        have HM1 := Lib.hid hm
        have PR := Lib.hid hp
        clear hm hp
        by_cases hlt : k < N
        · obtain ⟨b, off, s, rfl, hb0, hs, hc, ls⟩ := (S0.out.1.keep PR.out).at hlt
          obtain ⟨a0, a1, a2, a3, a4⟩ := hc
          have HS := Lib.hid hs
          clear hs ls
          cases hms : mayF s with
          | true =>
            have MS := Lib.hid hms
            clear hms
            go_wp2_with fail
            refine (rmay_b s true MS.out _).mono ?_; rintro e w2 ⟨rfl, b2⟩
            have P2 := Lib.hid (PR.out.trans (b2.mono PR.out.size))
            clear b2 a0 a1 a2 a3 a4
            go_wp2_with fail
            go_roundw
            case rel => exact ⟨k + 1, by omega, by go_num, by rw [all_snoc HS.out, HM1.out, MS.out]; rfl, P2.out⟩
            case measure => simp [intOf]; omega
          | false =>
            have E : Hid (backE L S q = 6) := Lib.hid (by rw [R.out, all_not HS.out hms]; rfl)
            have MS := Lib.hid hms
            clear hms
            go_wp2_with fail
            refine (rmay_b s false MS.out _).mono ?_; rintro e w2 ⟨rfl, b2⟩
            have P2 := Lib.hid (PR.out.trans (b2.mono PR.out.size))
            clear b2 a0 a1 a2 a3 a4
            go_wp2_with fail
            go_ret2
            exact backP_err E.out (by decide) P2.out
        · obtain rfl : k = N := by omega
          have AM : Hid (L.all mayF = true) := Lib.hid (by
            have := HM1.out
            rw [List.take_of_length_le (by rw [LL.out]; omega)] at this
            exact this)
          have R1 : Hid (backE L S q = if !(okT q && S.all okT) then 6 else 0) := Lib.hid (by rw [R.out, AM.out]; rfl)
          clear R HM1
          go_wp2_with fail
          go_loopw [10] (fun i wr => ∃ j : Nat, j ≤ M ∧ i = .int .i64 j ∧ (S.take j).all okT = true ∧ Below w.heap.size w wr) (fun i _ => M - (intOf i).toNat)
          case atStart => exact ⟨0, by omega, rfl, rfl, PR.out⟩
          case round =>
            clear PR
            obtain ⟨j, hj, rfl, hm, hp⟩ := hrel
            have HM1 := Lib.hid hm
            have PR := Lib.hid hp
            clear hm hp
            by_cases hlt : j < M
            · obtain ⟨b, off, t, rfl, hb0, ht, hc, lt⟩ := (S0.out.2.keep PR.out).at hlt
              have HT := Lib.hid ht
              have OK : okT t = (decide (Lk.Fin t) && !(clt t 0)) := rfl
              have BAD : Hid (okT t = false → backE L S q = 6) := Lib.hid fun h => by
                rw [R1.out, ok_not ht h, Bool.and_false]; rfl
              clear ht
              cases hf : decide (Lk.Fin t) with
              | false =>
                have E := Lib.hid (BAD.out (by rw [OK, hf]; rfl))
                have HF := Lib.hid hf
                clear hf OK
                go_wp2_with fail
                refine (isfin_b t t false (Is.refl t) HF.out _).mono ?_; rintro e w6 ⟨rfl, rfl⟩
                go_wp2_with fail
                go_ret2
                exact backP_err E.out (by decide) PR.out
              | true =>
                cases hn : clt t 0 with
                | true =>
                  have E := Lib.hid (BAD.out (by rw [OK, hf, hn]; rfl))
                  have HF := Lib.hid hf
                  have q1 : (FloatKind.f64.format.order t 0 == some Ordering.lt) = true := hn
                  clear hf OK hn
                  go_wp2_with fail
                  refine (isfin_b t t true (Is.refl t) HF.out _).mono ?_; rintro e w6 ⟨rfl, rfl⟩
                  go_wp2_with fail
                  go_ret2
                  exact backP_err E.out (by decide) PR.out
                | false =>
                  have OT := Lib.hid (show okT t = true by rw [OK, hf, hn]; rfl)
                  have HF := Lib.hid hf
                  have q1 : (FloatKind.f64.format.order t 0 == some Ordering.lt) = false := hn
                  clear hf OK hn
                  go_wp2_with fail
                  refine (isfin_b t t true (Is.refl t) HF.out _).mono ?_; rintro e w6 ⟨rfl, rfl⟩
                  go_wp2_with fail
                  go_roundw
                  case rel => exact ⟨j + 1, by omega, by go_num, by rw [ok_snoc HT.out, HM1.out, OT.out]; rfl, PR.out⟩
                  case measure => simp [intOf]; omega
            · obtain rfl : j = M := by omega
              have R2 : Hid (backE L S q = if !(okT q) then 6 else 0) := Lib.hid (by
                have := HM1.out
                rw [List.take_of_length_le (by rw [LS.out]; omega)] at this
                rw [R1.out, this, Bool.and_true])
              have OK : okT q = (decide (Lk.Fin q) && !(clt q 0)) := rfl
              clear R1 HM1
              cases hf : decide (Lk.Fin q) with
              | false =>
                have E : Hid (backE L S q = 6) := Lib.hid (by rw [R2.out, OK, hf]; rfl)
                have HF := Lib.hid hf
                clear hf OK R2
                go_wp2_with fail
                refine (isfin_b q q false (Is.refl q) HF.out _).mono ?_; rintro e w6 ⟨rfl, rfl⟩
                go_wp2_with fail
                go_ret2
                exact backP_err E.out (by decide) PR.out
              | true =>
                cases hn : clt q 0 with
                | true =>
                  have E : Hid (backE L S q = 6) := Lib.hid (by rw [R2.out, OK, hf, hn]; rfl)
                  have HF := Lib.hid hf
                  have q1 : (FloatKind.f64.format.order q 0 == some Ordering.lt) = true := hn
                  clear hf OK hn R2
                  go_wp2_with fail
                  refine (isfin_b q q true (Is.refl q) HF.out _).mono ?_; rintro e w6 ⟨rfl, rfl⟩
                  go_wp2_with fail
                  go_ret2
                  exact backP_err E.out (by decide) PR.out
                | false =>
                  have E0 : Hid (backE L S q = 0) := Lib.hid (by rw [R2.out, OK, hf, hn]; rfl)
                  have HF := Lib.hid hf
                  have q1 : (FloatKind.f64.format.order q 0 == some Ordering.lt) = false := hn
                  obtain ⟨I, hi, hzz⟩ := Option.map_eq_some_iff.1 st_info5
                  simp only [Prod.mk.injEq] at hzz
                  obtain ⟨z, hz, hzc⟩ := Option.map_eq_some_iff.1 hzz.1
                  have hmk : ∀ w : World, (Instr.makeSlice 22 (.int .i64 (k : Int)) (.int .i64 (k : Int))).run Try.prog w = .ok (.slice (some ⟨w.heap.size, 0, none⟩) k k) (w.alloc (.cells (madeCells #[.float .f64 0, .float .f64 0, .float .f64 0, .float .f64 0, .float .f64 0] (k * 5)) 27)) := fun w => by
                    have := run_make (P := Try.prog) w 22 27 I z Try.und22 hi hz .i64 .i64 k k (by omega) (Int.le_refl _) (by rw [hzz.2.2]; omega) (by omega)
                    rw [hzc, hzz.2.1] at this
                    simpa using this
                  have h0 := MK.new wr k L S q
                  generalize madeCells #[.float .f64 0, .float .f64 0, .float .f64 0, .float .f64 0, .float .f64 0] (k * 5) = mz at hmk h0
                  have H0 := Lib.hid h0
                  have z0 : IntKind.i64.wrap ((k : Int) - 1) = (k : Int) - 1 := IntWalk.i64_in _ (by omega)
                  clear hf OK hn R2 h0 hzz hzc hz hi
                  go_wp2_with fail
                  refine (isfin_b q q true (Is.refl q) HF.out _).mono ?_; rintro e w6 ⟨rfl, rfl⟩
                  go_wp2_with fail
                  refine wp_forget (fun wx => MK wx wr.heap.size k 0 L S q ∧ Below w.heap.size w wx) ⟨H0.out, PR.out.alloc PR.out.size _⟩ ?_
                  rintro w7 ⟨m7, p7⟩
                  have gw : w.heap.size ≤ wr.heap.size := PR.out.size
                  clear H0 hmk PR
                  generalize wr.heap.size = g at m7 gw ⊢
                  have M7 := Lib.hid m7
                  have P7 := Lib.hid p7
                  have GW := Lib.hid gw
                  clear m7 p7 gw
                  go_loopw [12] (fun i wr => ∃ (m : Nat) (x : Int), m ≤ k ∧ x = (k : Int) - 1 - m ∧ i = .int .i64 x ∧ MK wr g k m L S q ∧ Below w.heap.size w wr) (fun i _ => (intOf i + 1).toNat)
                  case atStart => exact ⟨0, _, by omega, by omega, rfl, M7.out, P7.out⟩
                  case round =>
                    clear M7 P7
                    obtain ⟨m, x, hm, hx, rfl, hmk, hp⟩ := hrel
                    have HM7 := Lib.hid hmk
                    have PR := Lib.hid hp
                    clear hp hmk
                    by_cases hlt : 0 ≤ x
                    · obtain ⟨i, rfl⟩ := Int.eq_ofNat_of_zero_le hlt
                      have hi : i + m + 1 = k := by omega
                      obtain ⟨b, off, s, rfl, hb0, hs, hc, ls⟩ := (S0.out.1.keep PR.out).at (show i < k by omega)
                      obtain ⟨a0, a1, a2, a3, a4⟩ := hc
                      have hsm : mayF s = true := List.all_eq_true.1 AM.out s (List.mem_of_getElem? hs)
                      obtain ⟨cur, hcur, hmc⟩ := HM7.out
                      have y1 := HM7.out.lt
                      have sz : i * 5 + 5 ≤ cur.size := by rw [hmc.size]; omega
                      have z1 : (i : Int) < k := by omega
                      have z2 : (i : Int) + 1 ≤ k := by omega
                      have HX := Lib.hid hx
                      have HI := Lib.hid hi
                      have HMC := Lib.hid hmc
                      have LTS := Lib.hid ls
                      have MS := Lib.hid hsm
                      by_cases hz : m = 0
                      · subst hz
                        have HT : Hid (s = bkF L S q 0) := Lib.hid (by
                          show s = L.getD (L.length - 1) _
                          rw [show L.length - 1 = i by rw [LL.out]; omega, getS hs])
                        have q2 : ((i : Int) == (k : Int) - 1) = true := by rw [beq_iff_eq]; omega
                        clear hx hi hmc ls hsm hs
                        go_wp2_with (refine wpList_store_at rfl rfl (g := g) (j := i * 5) rfl rfl hcur (by kernel_rfl) (by simp only [List.size_toArray, List.length_cons, List.length_nil]; omega) (one_fl5 _ _ _ _ _) ?_; intro w8 b8 o8; have M8 : Hid (MK w8 g k (0 + 1) L S q) := Lib.hid ⟨_, b8, HMC.out.put HI.out HT.out⟩; have P8 := Lib.hid (PR.out.trans (o8.below GW.out)); clear b8 o8 hcur)
                        go_roundw
                        case rel => exact ⟨0 + 1, _, by have := HI.out; omega, by have := HI.out; omega, rfl, M8.out, P8.out⟩
                        case measure => simp [intOf] <;> omega
                      · obtain ⟨m', rfl⟩ : ∃ m', m = m' + 1 := ⟨m - 1, by omega⟩
                        obtain ⟨b2, off2, dt, rfl, hb1, hd, cd, ldt⟩ := (S0.out.2.keep PR.out).at (show i < j by have := HM.out; omega)
                        have hnx := (hmc.got (i + 1) (by omega) (by omega)).at hcur
                        rw [show k - 1 - (i + 1) = m' by omega] at hnx
                        have HT : Hid (stepF s dt q (bkF L S q m') = bkF L S q (m' + 1)) := Lib.hid (by
                          show _ = stepF (L.getD (L.length - 1 - (m' + 1)) _) (S.getD (L.length - 1 - (m' + 1)) 0) q (bkF L S q m')
                          rw [show L.length - 1 - (m' + 1) = i by rw [LL.out]; omega, getS hs, getD_of hd])
                        obtain ⟨o0, o1, o2, o3, o4⟩ := hnx
                        have q2 : ((i : Int) == (k : Int) - 1) = false := by rw [beq_eq_false_iff_ne]; omega
                        have zj : (i : Int) < j := by have := HM.out; omega
                        have z3 : (i : Int) + 1 < k := by omega
                        have s1 : IntKind.i64.wrap ((i : Int) + 1) = (i : Int) + 1 := IntWalk.i64_in _ (by omega)
                        have s2 : 0 ≤ (i : Int) + 1 := by omega
                        have s3 : ((i : Int) + 1).toNat = i + 1 := by omega
                        generalize bkF L S q m' = nx at o0 o1 o2 o3 o4 HT
                        clear hx hi hmc ls hsm hs hd
                        go_wp2_with fail
                        refine wp_region_G_tail 17 (TSt s nx dt q) (by kernel_rfl) (by kernel_rfl) ?_
                        simp only [List.take, List.drop]
                        repeat' (refine wpG_step' (fun K hA hK => ?_); go_simp; first | (refine bothG_value hA (v := ?_) (fun w' hw' => ?_) ?_; rotate_left; (· go_simp; rfl); (refine hK _ _ ?_; clear hK hA K)) | (refine bothG_call (f := 35) (args := ?_) (fun w' => ?_) (fun w' _ => ?_) ?_; rotate_left; (· go_simp; rfl); (· exact tst LTS.out MS.out w'); (intro u y hu; have hu2 := hu rfl; subst hu2; clear hu; refine hK _ _ ?_; clear hK hA K)))
                        refine wpG_nil ?_
                        intro w8 hb hF
                        have hc8 := (hb.block _ y1).trans hcur
                        have P7 := Lib.hid (PR.out.trans (hb.mono PR.out.size))
                        clear hF hb hcur a0 a1 a2 a3 a4 o0 o1 o2 o3 o4 cd
                        go_wp2_with (refine wpList_store_at rfl rfl (g := g) (j := i * 5) rfl rfl hc8 (by kernel_rfl) (by simp only [List.size_toArray, List.length_cons, List.length_nil]; omega) (one_fl5 _ _ _ _ _) ?_; intro w9 b9 o9; have M9 : Hid (MK w9 g k (m' + 1 + 1) L S q) := Lib.hid ⟨_, b9, HMC.out.put HI.out HT.out⟩; have P9 := Lib.hid (P7.out.trans (o9.below GW.out)); clear b9 o9 hc8)
                        go_roundw
                        case rel => exact ⟨m' + 1 + 1, _, by have := HI.out; omega, by have := HI.out; omega, rfl, M9.out, P9.out⟩
                        case measure => simp [intOf] <;> omega
                    · have hmk : m = k := by omega
                      subst hmk
                      have hbig : m ≤ 1024 := by omega
                      clear hx
                      go_wp2_with fail
                      go_ret2
                      exact ret_back E0.out LL.out HM7.out GW.out hbig PR.out
    · have E : Hid (backE L S q = 5) := Lib.hid (by rw [if_pos h2] at R0; exact R0)
      have h3 : ((M : Int) != if 1 < (N : Int) then (N : Int) - 1 else 0) = true := by
        rw [bne_iff_ne]; split <;> omega
      clear R0
      go_enter Try.func12, Try.ntmps12
      go_wp2_with fail
      all_goals
        go_ret2
        exact backP_err E.out (by decide) (Below.refl _ _)
end Go.Proofs.Ytoobpiednigcgaa
