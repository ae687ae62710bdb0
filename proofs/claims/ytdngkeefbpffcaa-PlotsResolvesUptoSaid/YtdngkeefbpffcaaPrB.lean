import Derived.Test.YtdngkeefbpffcaaPrA
import Derived.WalkMore
set_option autoImplicit false
set_option linter.unusedVariables false
namespace Go.Proofs.Ytdngkeefbpffcaa
open Go.RowKit Lk Rs Pl Fo
theorem longC_next {L : List (List Int)} {k : Nat} {C : List Int} (h : L[k]? = some C) (h0 : longC (L.take k) = false) : longC (L.take (k + 1)) = decide (256 < C.length) := by
  unfold longC at h0 ⊢
  rw [List.take_add_one, h, List.any_append, h0]; simp
theorem longC_more {L : List (List Int)} {k : Nat} (h : longC (L.take k) = true) (n : Nat) (hk : k ≤ n) : longC (L.take n) = true := by
  unfold longC at h ⊢
  obtain ⟨c, hc, h2⟩ := List.any_eq_true.1 h
  have : L.take k = (L.take n).take k := by rw [List.take_take]; congr 1; omega
  rw [this] at hc
  exact List.any_eq_true.2 ⟨c, List.mem_of_mem_take hc, h2⟩
set_option maxRecDepth 100000 in
set_option maxHeartbeats 8000000 in
theorem rresolve_walk (aB : Option Addr) (nB cB : Nat) (B : List Bt) (aC : Option Addr) (nC cC : Nat) (LL : List (List Int)) (off most : Int) (w : World) (hB : SBt w aB nB cB B) (hC : SC w aC nC cC LL) :
    Calls Try.prog 15 #[.slice aB nB cB, .slice aC nC cC, .int .i64 off, .int .i64 most] w (ResP B LL off most w) := by
  obtain ⟨I2, Z2, hi2, hz2, hs2, hy2, hk2⟩ := rs_info rs_int_info
  obtain ⟨N, hN⟩ : ∃ N, N = min nB nC := ⟨_, rfl⟩
  have W : Hid (resW B LL off most = if 8 < N then ([], 3) else if longC (LL.take N) then ([], 3) else if firstE (B.take N) ≠ 0 then ([], firstE (B.take N)) else if off < 0 ∨ most < 0 then ([], 2) else if 1048576 < most then ([], 3) else if 65536 < (resL (hitR B LL off) most.toNat).length then ([], 3) else (resL (hitR B LL off) most.toNat, 0)) := Lib.hid (by
    unfold resW; rw [show min B.length LL.length = N by rw [hN, hB.len, hC.len]])
  have NL : Hid (N = min B.length LL.length) := Lib.hid (by rw [hN, hB.len, hC.len])
  have b1 := hB.le
  have b2 := hB.small
  have c1 := hC.le
  have c2 := hC.small
  have HB := Lib.hid hB
  have HC := Lib.hid hC
  have nb : N ≤ nB := by omega
  have nc : N ≤ nC := by omega
  have hmin : Hid ((nB ≤ nC → (nB : Int) = (N : Int)) ∧ (¬ nB ≤ nC → (nC : Int) = (N : Int))) := Lib.hid (by omega)
  clear hB hC hN
  go_enter Try.func15, Try.ntmps15
  go_upto_region 1 with fail
  go_cut [10] (fun s10 wx => s10 = .int .i64 (N : Int) ∧ wx = w)
  case first =>
    by_cases g : nB ≤ nC
    · have gi : (nB : Int) ≤ (nC : Int) := by omega
      go_wp2_with fail
      go_meet
      exact ⟨by rw [hmin.out.1 g], rfl⟩
    · have gi : ¬ (nB : Int) ≤ (nC : Int) := by omega
      go_wp2_with fail
      go_meet
      exact ⟨by rw [hmin.out.2 g], rfl⟩
  case rest =>
  obtain ⟨rfl, rfl⟩ := hcut
  clear hmin
  by_cases g8 : 8 < N
  · have g8i : (8 : Int) < (N : Int) := by omega
    have E : Hid (resW B LL off most = ([], 3)) := Lib.hid (by rw [W.out, if_pos g8])
    go_wp2_with fail
    go_ret2
    exact resP_no E.out (Below.refl _ _)
  have g8i : ¬ (8 : Int) < (N : Int) := by omega
  go_wp2_with fail
  go_loopw [11] (fun i wr => ∃ k : Nat, i = .int .i64 k ∧ k ≤ N ∧ longC (LL.take k) = false ∧ Below wc.heap.size wc wr) (fun i _ => N - (intOf i).toNat)
  case atStart => exact ⟨0, rfl, by omega, rfl, Below.refl _ _⟩
  case round =>
    obtain ⟨k, rfl, hk, hf, bb⟩ := hrel
    have HF := Lib.hid hf
    have BB := Lib.hid bb
    clear hf bb
    by_cases hlt : k < N
    · obtain ⟨b, of, C, a', c', rfl, hb, hx, cc0, sn⟩ := (HC.out.keep BB.out).at (show k < nC by omega)
      have F1 := Lib.hid (longC_next hx HF.out)
      have kN : (k : Int) < (N : Int) := by omega
      have kC : (k : Int) < (nC : Int) := by omega
      obtain ⟨M, hM⟩ : ∃ M, M = C.length := ⟨_, rfl⟩
      rw [← hM] at F1 cc0
      clear hx sn hM
      by_cases g : 256 < M
      · have gi : (256 : Int) < (M : Int) := by omega
        have E : Hid (resW B LL off most = ([], 3)) := Lib.hid (by rw [W.out, if_neg g8, if_pos (longC_more (F1.out.trans (decide_eq_true g)) N (by omega))])
        go_wp2_with fail
        go_ret2
        exact resP_no E.out BB.out
      · have gi : ¬ (256 : Int) < (M : Int) := by omega
        have F2 := Lib.hid (F1.out.trans (decide_eq_false g))
        go_wp2_with fail
        go_roundw
        case rel => exact ⟨k + 1, by go_num, by omega, F2.out, BB.out⟩
        case measure => simp only [intOf]; omega
    · obtain rfl : k = N := by omega
      have HL := Lib.hid HF.out
      have BL := Lib.hid BB.out
      clear HF BB
      go_wp2_with fail
      go_loopw [12] (fun i wr => ∃ q : Nat, i = .int .i64 q ∧ q ≤ k ∧ firstE (B.take q) = 0 ∧ Below wc.heap.size wc wr) (fun i _ => k - (intOf i).toNat)
      case atStart => exact ⟨0, rfl, by omega, rfl, BL.out⟩
      case round =>
        clear BL
        obtain ⟨q, rfl, hq, hf, bb⟩ := hrel
        have HF := Lib.hid hf
        have BB := Lib.hid bb
        clear hf bb
        by_cases hlt2 : q < k
        · obtain ⟨b, of, t, rfl, hb, hx, A, ok⟩ := (HB.out.keep BB.out).at (show q < nB by omega)
          have F1 := Lib.hid (firstE_succ hx HF.out)
          have qk : (q : Int) < (k : Int) := by omega
          have qB : (q : Int) < (nB : Int) := by omega
          have d0 := A.c0
          have d1 := A.c1
          have d2 := A.c2
          have d3 := A.c3
          have d4 := A.c4
          have OK := Lib.hid ok
          clear A hx ok
          go_wp2_with fail
          refine (rcheck_walk t.c t.v t.r t.e t.n _ OK.out.e1 OK.out.e2 OK.out.n1 OK.out.n2).mono ?_
          rintro e w2 ⟨rfl, bw2⟩
          have B2 := Lib.hid (BB.out.trans (bw2.mono BB.out.size))
          obtain ⟨x, hx⟩ : ∃ x, x = chk t.c t.v t.r t.e t.n := ⟨_, rfl⟩
          rw [← hx]
          have HX : Hid (x = chkB t) := Lib.hid hx
          clear bw2 d0 d1 d2 d3 d4 hx
          by_cases h0 : x = 0
          · have F2 : Hid (firstE (B.take (q + 1)) = 0) := Lib.hid (by rw [F1.out, ← HX.out]; exact h0)
            subst h0
            go_wp2_with fail
            go_roundw
            case rel => exact ⟨q + 1, by go_num, by omega, F2.out, B2.out⟩
            case measure => simp only [intOf]; omega
          · have F2 : Hid (firstE (B.take k) = x) := Lib.hid (by
              have h1 := firstE_stop (L := B.take k) (k := q + 1) (by rw [List.take_take, show min (q + 1) k = q + 1 by omega, F1.out, ← HX.out]; exact h0)
              rw [h1, List.take_take, show min (q + 1) k = q + 1 by omega, F1.out, HX.out])
            have E : Hid (resW B LL off most = ([], x)) := Lib.hid (by rw [W.out, if_neg g8, if_neg (by rw [HL.out]; simp), if_pos (by rw [F2.out]; exact h0), F2.out])
            have h0b : (x == 0) = false := by rw [beq_eq_false_iff_ne]; exact h0
            go_wp2_with fail
            go_ret2
            exact resP_no E.out B2.out
        · obtain rfl : q = k := by omega
          have W2 : Hid (resW B LL off most = if off < 0 ∨ most < 0 then ([], 2) else if 1048576 < most then ([], 3) else if 65536 < (resL (hitR B LL off) most.toNat).length then ([], 3) else (resL (hitR B LL off) most.toNat, 0)) := Lib.hid (by rw [W.out, if_neg g8, if_neg (by rw [HL.out]; simp), if_neg (by rw [HF.out]; simp)])
          have CK := Lib.hid (firstE_ok HF.out)
          clear W HL HF
          by_cases g1 : off < 0
          · have E : Hid (resW B LL off most = ([], 2)) := Lib.hid (by rw [W2.out, if_pos (.inl g1)])
            go_wp2_with fail
            go_ret2
            exact resP_no E.out BB.out
          by_cases g2 : most < 0
          · have E : Hid (resW B LL off most = ([], 2)) := Lib.hid (by rw [W2.out, if_pos (.inr g2)])
            go_wp2_with fail
            go_ret2
            exact resP_no E.out BB.out
          by_cases g3 : 1048576 < most
          · have E : Hid (resW B LL off most = ([], 3)) := Lib.hid (by rw [W2.out, if_neg (by omega), if_pos g3])
            go_wp2_with fail
            go_ret2
            exact resP_no E.out BB.out
          have W3 : Hid (resW B LL off most = if 65536 < (resL (hitR B LL off) most.toNat).length then ([], 3) else (resL (hitR B LL off) most.toNat, 0)) := Lib.hid (by rw [W2.out, if_neg (by omega), if_neg g3])
          have BB3 := Lib.hid BB.out
          clear W2 BB
          obtain ⟨w7, e7⟩ : ∃ y, y = wr := ⟨_, rfl⟩
          rw [← e7] at BB3 ⊢
          clear e7
          go_wp2_with fail
          go_loopw [14, 15] (fun v i wr => ∃ (x m : Nat), (x : Int) ≤ most ∧ i = .int .i64 x ∧ m ≤ 65536 ∧ (resL (hitR B LL off) x).length = m ∧ wr.ownsRow w7.heap.size 2 1 v m (rints (resL (hitR B LL off) x)) ∧ Below w7.heap.size w7 wr) (fun _ i _ => most.toNat - (intOf i).toNat)
          case atStart => exact ⟨0, 0, by omega, rfl, by omega, rfl, World.ownsRow_nil _ _ _ _, Below.refl _ _⟩
          case round =>
            obtain ⟨x, m, hx, rfl, hm, hl, ho, hb⟩ := hrel
            obtain ⟨ua, uc, rfl, u1, u2⟩ := rs_form ho
            have HL := Lib.hid hl
            have HO := Lib.hid ho
            have H7 := Lib.hid hb
            obtain ⟨w8, e8⟩ : ∃ y, y = wr := ⟨_, rfl⟩
            rw [← e8] at HO H7 ⊢
            clear e8 hl ho hb
            by_cases hlt3 : (x : Int) < most
            · have B8 := Lib.hid (BB3.out.trans (H7.out.mono BB3.out.size))
              go_wp2_with fail
              go_loopw [16, 17] (fun v16 v17 wr => ∃ i : Nat, v16 = .bool (hitK B LL off x i) ∧ v17 = .int .i64 i ∧ i ≤ q ∧ Below w8.heap.size w8 wr) (fun _ v17 _ => q - (intOf v17).toNat)
              case atStart => exact ⟨0, rfl, rfl, by omega, Below.refl _ _⟩
              case round =>
                obtain ⟨i, rfl, rfl, hi, hb9⟩ := hrel
                have B9 := Lib.hid hb9
                clear hb9
                obtain ⟨w9, e9⟩ : ∃ y, y = wr := ⟨_, rfl⟩
                rw [← e9] at B9 ⊢
                clear e9
                cases hA : hitK B LL off x i with
                | false =>
                  have NN : Hid (resL (hitR B LL off) (x + 1) = resL (hitR B LL off) x) := Lib.hid (resL_no (by
                    rw [← hitK_all (x := x) (by omega) (fun t ht => by have := chk_zero (CK.out t (by rw [NL.out]; exact ht)); omega), ← NL.out]
                    exact hitK_less hA q hi))
                  have HO9 := Lib.hid (rs_own HO.out fun g hg => B9.out.block g (HO.out.lt g hg).2)
                  have H9 := Lib.hid (H7.out.trans (B9.out.mono H7.out.size))
                  clear hA CK HO H7 B8 B9
                  by_cases hlt4 : i < q
                  · have iq : (i : Int) < (q : Int) := by omega
                    go_wp2_with fail
                    go_roundw
                    case rel => exact ⟨x + 1, m, by omega, by go_num, hm, by rw [NN.out]; exact HL.out, by rw [NN.out]; exact HO9.out, H9.out⟩
                    case measure => simp only [intOf]; omega
                  · have iq : ¬ (i : Int) < (q : Int) := by omega
                    go_wp2_with fail
                    go_roundw
                    case rel => exact ⟨x + 1, m, by omega, by go_num, hm, by rw [NN.out]; exact HL.out, by rw [NN.out]; exact HO9.out, H9.out⟩
                    case measure => simp only [intOf]; omega
                | true =>
                  have HA := Lib.hid hA
                  clear hA
                  by_cases hlt4 : i < q
                  · have iq : (i : Int) < (q : Int) := by omega
                    have iC : (i : Int) < (nC : Int) := by omega
                    have iB : (i : Int) < (nB : Int) := by omega
                    have B10 := Lib.hid (B8.out.trans (B9.out.mono B8.out.size))
                    obtain ⟨b, of, t, rfl, hb, hbx, A, ok⟩ := (HB.out.keep B10.out).at (show i < nB by omega)
                    obtain ⟨bc, oc, C, a', c', rfl, hbc, hcx, cc0, sn⟩ := (HC.out.keep B10.out).at (show i < nC by omega)
                    have ck := chk_zero (CK.out t (by rw [List.mem_take_iff_getElem]; have := (List.getElem?_eq_some_iff.1 hbx); obtain ⟨h1, h2⟩ := this; exact ⟨i, by omega, h2⟩))
                    have d3 := A.c3
                    have HS := Lib.hid (hitK_succ (off := off) (x := x) hbx hcx)
                    obtain ⟨M, hM⟩ : ∃ M, M = C.length := ⟨_, rfl⟩
                    rw [← hM] at cc0 sn
                    have sle := sn.le
                    have ssm := sn.small
                    have SN9 := Lib.hid sn
                    have HM := Lib.hid hM
                    clear A ok hbx hcx sn hM
                    go_wp2_with fail
                    go_loopw [18, 19] (fun v18 v19 wr => ∃ z : Nat, v18 = .bool (nrK x t.e off C z) ∧ v19 = .int .i64 z ∧ z ≤ M ∧ Below w9.heap.size w9 wr) (fun _ v19 _ => M - (intOf v19).toNat)
                    case atStart => exact ⟨0, rfl, rfl, by omega, Below.refl _ _⟩
                    case round =>
                      obtain ⟨z, rfl, rfl, hz, hb11⟩ := hrel
                      have B11 := Lib.hid hb11
                      clear hb11
                      obtain ⟨w11, e11⟩ : ∃ y, y = wr := ⟨_, rfl⟩
                      rw [← e11] at B11 ⊢
                      clear e11
                      have cc1 := (B11.out.cell (p := ⟨bc, oc + i, none⟩) hbc).trans cc0
                      have hbc1 := Nat.lt_of_lt_of_le hbc B11.out.size
                      have d31 := (B11.out.cell (p := ⟨b, of + i * 5 + 3, none⟩) hb).trans d3
                      have hb1 := Nat.lt_of_lt_of_le hb B11.out.size
                      cases hN : nrK x t.e off C z with
                      | true =>
                        have NE : Hid (hitK B LL off x (i + 1) = true) := Lib.hid (by rw [HS.out, HA.out, Bool.true_and]; exact nrK_more hN)
                        have B12 := Lib.hid (B9.out.trans (B11.out.mono B9.out.size))
                        clear hN d31 hb1 HS SN9 B11
                        by_cases zM : z < M
                        · have z1 : (z : Int) < (M : Int) := by omega
                          go_wp2_with fail
                          go_roundw
                          case rel => exact ⟨i + 1, by rw [NE.out], by go_num, by omega, B12.out⟩
                          case measure => simp only [intOf]; omega
                        · have z1 : ¬ (z : Int) < (M : Int) := by omega
                          go_wp2_with fail
                          go_roundw
                          case rel => exact ⟨i + 1, by rw [NE.out], by go_num, by omega, B12.out⟩
                          case measure => simp only [intOf]; omega
                      | false =>
                        have HNF := Lib.hid hN
                        clear hN
                        by_cases zM : z < M
                        · have z1 : (z : Int) < (M : Int) := by omega
                          obtain ⟨bs, os, c, rfl, hbs, hcs, cs⟩ := (SN9.out.keep B11.out).at zM
                          have NS := Lib.hid (nrK_succ (x := x) (E := t.e) (off := off) hcs)
                          obtain ⟨NR, hNR⟩ : ∃ NR, NR = decide (frD x c t.e ≤ off) := ⟨_, rfl⟩
                          rw [← hNR, HNF.out, Bool.false_or] at NS
                          have HNR := Lib.hid hNR
                          clear hcs hNR HS
                          go_upto_region 31 with fail
                          refine wp_region_J 17 (fun x => Below w11.heap.size w11 x) (by kernel_rfl) rfl (by kernel_rfl) ((Below.refl _ w11).drew) (fun wj hJ hs => ?_)
                          have HJ := Lib.hid hJ
                          clear hJ
                          (refine j_take 0 _ ?_ hs rfl rfl (by kernel_rfl) (by kernel_rfl) HJ.out (fun w' hw' => ?_) ?_; rotate_left; (· skip; go_simp; rfl); (go_simp))
                          (refine j_take 1 _ ?_ hs rfl rfl (by kernel_rfl) (by kernel_rfl) HJ.out (fun w' hw' => ?_) ?_; rotate_left; (· skip; go_simp; rfl); (go_simp))
                          (refine j_take 2 _ ?_ hs rfl rfl (by kernel_rfl) (by kernel_rfl) HJ.out (fun w' hw' => ?_) ?_; rotate_left; (· skip; go_simp; rfl); (go_simp))
                          (refine j_take 3 _ ?_ hs rfl rfl (by kernel_rfl) (by kernel_rfl) HJ.out (fun w' hw' => ?_) ?_; rotate_left; (· skip; go_simp; rfl); (go_simp))
                          (refine j_take 4 _ ?_ hs rfl rfl (by kernel_rfl) (by kernel_rfl) HJ.out (fun w' hw' => ?_) ?_; rotate_left; (· have d := (hw'.cell (p := ⟨bc, oc + i, none⟩) hbc1).trans cc1; go_simp; rfl); (go_simp))
                          (refine j_take 5 _ ?_ hs rfl rfl (by kernel_rfl) (by kernel_rfl) HJ.out (fun w' hw' => ?_) ?_; rotate_left; (· skip; go_simp; rfl); (go_simp))
                          (refine j_take 6 _ ?_ hs rfl rfl (by kernel_rfl) (by kernel_rfl) HJ.out (fun w' hw' => ?_) ?_; rotate_left; (· skip; go_simp; rfl); (go_simp))
                          (refine j_take 7 _ ?_ hs rfl rfl (by kernel_rfl) (by kernel_rfl) HJ.out (fun w' hw' => ?_) ?_; rotate_left; (· have d := (hw'.cell (p := ⟨bs, os + z, none⟩) hbs).trans cs; go_simp; rfl); (go_simp))
                          (refine j_take 8 _ ?_ hs rfl rfl (by kernel_rfl) (by kernel_rfl) HJ.out (fun w' hw' => ?_) ?_; rotate_left; (· skip; go_simp; rfl); (go_simp))
                          (refine j_take 9 _ ?_ hs rfl rfl (by kernel_rfl) (by kernel_rfl) HJ.out (fun w' hw' => ?_) ?_; rotate_left; (· skip; go_simp; rfl); (go_simp))
                          (refine j_take 10 _ ?_ hs rfl rfl (by kernel_rfl) (by kernel_rfl) HJ.out (fun w' hw' => ?_) ?_; rotate_left; (· skip; go_simp; rfl); (go_simp))
                          (refine j_take 11 _ ?_ hs rfl rfl (by kernel_rfl) (by kernel_rfl) HJ.out (fun w' hw' => ?_) ?_; rotate_left; (· skip; go_simp; rfl); (go_simp))
                          (refine j_take 12 _ ?_ hs rfl rfl (by kernel_rfl) (by kernel_rfl) HJ.out (fun w' hw' => ?_) ?_; rotate_left; (· have d := (hw'.cell (p := ⟨b, of + i * 5 + 3, none⟩) hb1).trans d31; go_simp; rfl); (go_simp))
                          (refine j_take 14 _ ?_ hs rfl rfl (by kernel_rfl) (by kernel_rfl) HJ.out (fun w' hw' => ?_) ?_; rotate_left; (· skip; go_simp; rfl); (go_simp))
                          refine j_one 13 _ rfl (by kernel_rfl) HJ.out ?_
                          go_wp2_with fail
                          refine (rfar_walk x c t.e (by omega) (by omega) _).mono ?_
                          rintro e wf ⟨rfl, rfl⟩
                          generalize frD x c t.e = fr at HNR ⊢
                          go_wp2_with fail
                          refine ⟨HJ.out, ?_⟩
                          (refine j_take 15 _ ?_ hs rfl rfl (by kernel_rfl) (by kernel_rfl) HJ.out (fun w' hw' => ?_) ?_; rotate_left; (· skip; go_simp; rfl); (go_simp))
                          refine j_one 16 _ rfl (by kernel_rfl) HJ.out ?_
                          go_wp2_with fail
                          refine ⟨HJ.out, ?_⟩
                          refine j_done (by kernel_rfl) ?_
                          go_wp2_with fail
                          go_roundw
                          case rel => exact ⟨z + 1, by rw [NS.out, HNR.out], by go_num, by omega, B11.out.trans (HJ.out.mono B11.out.size)⟩
                          case measure => simp only [intOf]; omega
                        · obtain rfl : z = M := by omega
                          have NE : Hid (hitK B LL off x (i + 1) = false) := Lib.hid (by rw [HS.out, HA.out, Bool.true_and, ← HM.out]; exact HNF.out)
                          have B12 := Lib.hid (B9.out.trans (B11.out.mono B9.out.size))
                          clear d31 hb1 HS SN9 B11 HNF
                          go_wp2_with fail
                          go_roundw
                          case rel => exact ⟨i + 1, by rw [NE.out], by go_num, by omega, B12.out⟩
                          case measure => simp only [intOf]; omega
                  · obtain rfl : i = q := by omega
                    have hit : hitR B LL off x = true := by
                      rw [← hitK_all (x := x) (by omega) (fun t ht => by have := chk_zero (CK.out t (by rw [NL.out]; exact ht)); omega), ← NL.out]
                      exact HA.out
                    have NN : Hid (resL (hitR B LL off) (x + 1) = resL (hitR B LL off) x ++ [(x : Int)]) := Lib.hid (resL_yes hit)
                    have HO9 := Lib.hid (rs_own HO.out fun g hg => B9.out.block g (HO.out.lt g hg).2)
                    have H9 := Lib.hid (H7.out.trans (B9.out.mono H7.out.size))
                    have H10 := Lib.hid (BB3.out.trans (H9.out.mono BB3.out.size))
                    clear hit HO H7 B8 B9 HA
                    by_cases hmm : m = 65536
                    · have E2 : Hid (resW B LL off most = ([], 3)) := Lib.hid (by
                        rw [W3.out, if_pos]
                        have := resL_more (hitR B LL off) (x + 1) (most.toNat - (x + 1))
                        rw [show x + 1 + (most.toNat - (x + 1)) = most.toNat by omega, NN.out, List.length_append, HL.out] at this
                        simp only [List.length_cons, List.length_nil] at this
                        omega)
                      subst hmm
                      go_wp2_with fail
                      go_ret2
                      exact resP_no E2.out H10.out
                    · have hmi : ¬ (m : Int) = 65536 := by omega
                      have zb := H9.out.size
                      go_wp2_with (refine wpList_append_own_at _ rfl (.tmp 106) (.tmp 108) 39 rfl w7.heap.size 2 I2 Z2 1 8 Try.undIn hi2 hz2 hs2 hy2 hk2 (by decide) (.slice ua m uc) m (rints (resL (hitR B LL off) x)) rfl (HO9.out.alloc _) ⟨w9.heap.size, 0, none⟩ 1 1 [.int .i64 (x : Int)] rfl rfl (i_cells (Deep.blk_alloc_new w9 _)) (i_one _) (by simp only [maxLen]; omega) (by omega) (by simp; omega) ?_; intro v10 w10 ow gr _ _; have OW := Lib.hid ow; have GR := Lib.hid (H9.out.trans (rs_grown ((Below.refl w7.heap.size w9).alloc zb _) gr (HO9.out.alloc _) (by simp; omega))); clear ow gr)
                      go_roundw
                      case rel => exact ⟨x + 1, m + 1, by omega, by go_num, by omega, by rw [NN.out, List.length_append, HL.out]; rfl, by rw [NN.out, rints_snoc]; exact OW.out, GR.out⟩
                      case measure => simp only [intOf]; omega
            · have e : resW B LL off most = (resL (hitR B LL off) x, 0) := by
                have : most.toNat = x := by omega
                rw [W3.out, this, if_neg (by rw [HL.out]; omega)]
              have E := Lib.hid e
              have B12 := Lib.hid (BB3.out.trans (H7.out.mono BB3.out.size))
              have HO2 := Lib.hid (rs_low HO.out BB3.out.size)
              clear e CK
              go_wp2_with fail
              go_ret2
              exact ⟨_, ret2v' (by rw [E.out]), by rw [E.out, HL.out]; exact HO2.out, B12.out⟩
end Go.Proofs.Ytdngkeefbpffcaa
