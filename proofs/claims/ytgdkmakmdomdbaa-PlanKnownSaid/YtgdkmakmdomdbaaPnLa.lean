import Derived.Test.YtgdkmakmdomdbaaPnWd
set_option autoImplicit false
set_option linter.unusedVariables false
namespace Go.Proofs.Ytgdkmakmdomdbaa
open Go.RowKit Lk Pn
def wA : Nat → List Sl
  | 0 => []
  | k + 1 => wA k ++ [⟨1, 8 + (k : Int), 8 + (k : Int) + 1, true⟩]
def wB : Nat → List Sl
  | 0 => wA 3 ++ [⟨0, 11, 17, true⟩]
  | k + 1 => wB k ++ [⟨1, 17 + (k : Int), 17 + (k : Int) + 1, decide (17 + (k : Int) < 23)⟩]
theorem wA_len : ∀ k, (wA k).length = k
  | 0 => rfl
  | k + 1 => by rw [wA, List.length_append, wA_len k]; rfl
theorem wB_len : ∀ k, (wB k).length = 4 + k
  | 0 => rfl
  | k + 1 => by rw [wB, List.length_append, wB_len k]; rfl
theorem wB_end : wB 8 ++ [⟨0, 25, 26, false⟩, ⟨1, 26, 27, false⟩, ⟨1, 28, 29, false⟩] = [⟨1, 8, 9, true⟩, ⟨1, 9, 10, true⟩, ⟨1, 10, 11, true⟩, ⟨0, 11, 17, true⟩, ⟨1, 17, 18, true⟩, ⟨1, 18, 19, true⟩, ⟨1, 19, 20, true⟩, ⟨1, 20, 21, true⟩, ⟨1, 21, 22, true⟩, ⟨1, 22, 23, true⟩, ⟨1, 23, 24, false⟩, ⟨1, 24, 25, false⟩, ⟨0, 25, 26, false⟩, ⟨1, 26, 27, false⟩, ⟨1, 28, 29, false⟩] := by kernel_rfl
theorem lit_own (w : World) (M : List Sl) (hM : M.length ≤ 1000000) : (w.alloc (.cells (slv M).toArray 42)).ownsRow w.heap.size 42 4 (.slice (some ⟨w.heap.size, 0, none⟩) M.length M.length) M.length (slv M) := by
  refine ⟨slv_len M, .inr ⟨_, M.length, (slv M).toArray, rfl, Nat.le_refl _, Deep.blk_alloc_new _ _, Nat.le_refl _, by unfold maxLen; omega, by rw [List.size_toArray, slv_len], ?_⟩⟩
  rw [List.toList_toArray, List.take_of_length_le (by rw [slv_len]; exact Nat.le_refl _)]
theorem s_n1 : (nextP sEnd).2.1 = ⟨0, 0, 0, false⟩ := by kernel_rfl
theorem s_n2 : (nextP sEnd).2.2 = 3 := s_next
theorem s_n3 : (nextP sEnd).1.now = 1152921504606846971 := by kernel_rfl
set_option maxRecDepth 100000 in
set_option maxHeartbeats 4000000 in
theorem late_walk (w : World) : Calls Try.prog 24 #[] w (fun e w' => e = .returned (.bool true) ∧ Below w.heap.size w w') := by
  go_enter Try.func24, Try.ntmps24
  go_wp2_with fail
  refine (wd_new ((wd_nil w).al _) (by omega) _ 2 2 [⟨4, 4, 0⟩, ⟨1, 1, 0⟩] (ts_two w ⟨4, 4, 0⟩ ⟨1, 1, 0⟩) (by kernel_rfl)).mono ?_
  rintro e w1 ⟨pa, Sa, rfl, h⟩
  have H1 : Hid (Wd w.heap.size 1 w w1 [⟨Sa, pa, la0⟩] []) := Lib.hid h
  clear h
  go_wp2_with fail
  refine (wd_new (H1.out.al _) (by omega) _ 1 1 [⟨2, 1, 0⟩] (ts_one w1 ⟨2, 1, 0⟩) (by kernel_rfl)).mono ?_
  rintro e w2 ⟨pq, Sq, rfl, h⟩
  have H2 : Hid (Wd w.heap.size 1 w w2 [⟨Sa, pa, la0⟩, ⟨Sq, pq, lq0⟩] []) := Lib.hid h
  clear h H1
  go_wp2_with fail
  refine (wd_new (H2.out.al _) (by omega) _ 2 2 [⟨1099511627689, 1, 0⟩, ⟨8388593, 1, 0⟩] (ts_two w2 ⟨1099511627689, 1, 0⟩ ⟨8388593, 1, 0⟩) (by kernel_rfl)).mono ?_
  rintro e w3 ⟨pr, Sr, rfl, h⟩
  have H3 : Hid (Wd w.heap.size 1 w w3 [⟨Sa, pa, la0⟩, ⟨Sq, pq, lq0⟩, ⟨Sr, pr, newP [⟨1099511627689, 1, 0⟩, ⟨8388593, 1, 0⟩]⟩] []) := Lib.hid h
  clear h H2
  go_wp2_with fail
  refine (wd_new (H3.out.al _) (by omega) _ 1 1 [⟨1099511627775, 1099511627775, 0⟩] (ts_one w3 ⟨1099511627775, 1099511627775, 0⟩) (by kernel_rfl)).mono ?_
  rintro e w4 ⟨ps, Ss, rfl, h⟩
  have H4 : Hid (Wd w.heap.size 1 w w4 [⟨Sa, pa, la0⟩, ⟨Sq, pq, lq0⟩, ⟨Sr, pr, newP [⟨1099511627689, 1, 0⟩, ⟨8388593, 1, 0⟩]⟩, ⟨Ss, ps, sK 0⟩] []) := Lib.hid h
  clear h H3
  go_wp2_with fail
  refine (wd_until (pre := []) (rs := []) H4.out 7 (by omega) (by omega)).mono ?_
  rintro e w5 ⟨va, Sa1, rfl, h⟩
  rw [lf_a] at h
  have H5 : Hid (Wd w.heap.size 1 w w5 [⟨Sa1, pa, la1⟩, ⟨Sq, pq, lq0⟩, ⟨Sr, pr, newP [⟨1099511627689, 1, 0⟩, ⟨8388593, 1, 0⟩]⟩, ⟨Ss, ps, sK 0⟩] [(va, [⟨1, 0, 1, false⟩, ⟨1, 1, 2, false⟩, ⟨1, 2, 3, false⟩, ⟨0, 3, 7, true⟩])]) := Lib.hid h
  clear h H4
  go_wp2_with fail
  refine (wd_until (pre := []) (rs := [_]) H5.out 12 (by omega) (by omega)).mono ?_
  rintro e w6 ⟨vb, Sa2, rfl, h⟩
  rw [lf_b] at h
  have H6 : Hid (Wd w.heap.size 1 w w6 [⟨Sa2, pa, (untilP la1 12).1⟩, ⟨Sq, pq, lq0⟩, ⟨Sr, pr, newP [⟨1099511627689, 1, 0⟩, ⟨8388593, 1, 0⟩]⟩, ⟨Ss, ps, sK 0⟩] [(va, [⟨1, 0, 1, false⟩, ⟨1, 1, 2, false⟩, ⟨1, 2, 3, false⟩, ⟨0, 3, 7, true⟩]), (vb, [⟨1, 7, 8, true⟩, ⟨1, 8, 9, true⟩, ⟨1, 9, 10, true⟩, ⟨1, 10, 11, true⟩, ⟨0, 11, 12, true⟩])]) := Lib.hid h
  clear h H5
  go_wp2_with fail
  refine (wd_lit (pre := []) (post := [_]) H6.out (by decide)).mono ?_
  rintro e w7 ⟨rfl, h⟩
  have H7 := Lib.hid h
  clear h H6
  go_wp2_with fail
  refine (wd_lit (pre := []) (post := []) H7.out (by decide)).mono ?_
  rintro e w8 ⟨rfl, h⟩
  have H8 := Lib.hid h
  clear h H7
  go_wp2_with fail
  refine (wd_until (pre := [_]) (rs := []) H8.out 2 (by omega) (by omega)).mono ?_
  rintro e w9 ⟨vq, Sq1, rfl, h⟩
  have H9 : Hid (Wd w.heap.size 1 w w9 [⟨Sa2, pa, (untilP la1 12).1⟩, ⟨Sq1, pq, lq1⟩, ⟨Sr, pr, newP [⟨1099511627689, 1, 0⟩, ⟨8388593, 1, 0⟩]⟩, ⟨Ss, ps, sK 0⟩] []) := Lib.hid (h.drop (pre := []) (post := []))
  clear h H8
  go_wp2_with fail
  refine (wd_set (pre := [_]) (rs := []) H9.out 0 ⟨5, 1, 0⟩ (by omega) (by omega)).mono ?_
  rintro e w10 ⟨Sq2, rfl, h⟩
  rw [lf_c]
  have H10 : Hid (Wd w.heap.size 2 w w10 [⟨Sa2, pa, (untilP la1 12).1⟩, ⟨Sq2, pq, lq2⟩, ⟨Sr, pr, newP [⟨1099511627689, 1, 0⟩, ⟨8388593, 1, 0⟩]⟩, ⟨Ss, ps, sK 0⟩] []) := Lib.hid h
  clear h H9
  go_wp2_with fail
  refine (wd_until (pre := [_]) (rs := []) H10.out 12 (by omega) (by omega)).mono ?_
  rintro e w11 ⟨vd, Sq3, rfl, h⟩
  rw [lf_d] at h
  have H11 : Hid (Wd w.heap.size 2 w w11 [⟨Sa2, pa, (untilP la1 12).1⟩, ⟨Sq3, pq, (untilP lq2 12).1⟩, ⟨Sr, pr, newP [⟨1099511627689, 1, 0⟩, ⟨8388593, 1, 0⟩]⟩, ⟨Ss, ps, sK 0⟩] [(vd, [⟨0, 2, 3, false⟩, ⟨0, 4, 5, false⟩, ⟨0, 9, 10, false⟩])]) := Lib.hid h
  clear h H10
  go_wp2_with fail
  refine (wd_lit (pre := []) (post := []) H11.out (by decide)).mono ?_
  rintro e w12 ⟨rfl, h⟩
  have H12 := Lib.hid h
  clear h H11
  go_wp2_with fail
  refine (wd_load (pre := [_, _]) (rs := []) H12.out (by omega) (by omega)).mono ?_
  rintro e w13 ⟨rfl, h⟩
  rw [show loadF (tks (newP [⟨1099511627689, 1, 0⟩, ⟨8388593, 1, 0⟩]).l) = (0, 0) from lf_r]
  have H13 : Hid (Wd w.heap.size 2 w w13 [⟨Sa2, pa, (untilP la1 12).1⟩, ⟨Sq3, pq, (untilP lq2 12).1⟩, ⟨Sr, pr, newP [⟨1099511627689, 1, 0⟩, ⟨8388593, 1, 0⟩]⟩, ⟨Ss, ps, sK 0⟩] []) := Lib.hid h
  clear h H12
  go_wp2_with fail
  go_loopw [18] (fun i wr => ∃ (k : Nat) (Sx : Nat → Prop) (st : Pl), i = .int .i64 k ∧ k ≤ 17 ∧ (k < 17 → st = sK k) ∧ (k = 17 → st = sEnd) ∧ Wd w.heap.size 2 w wr [⟨Sa2, pa, (untilP la1 12).1⟩, ⟨Sq3, pq, (untilP lq2 12).1⟩, ⟨Sr, pr, newP [⟨1099511627689, 1, 0⟩, ⟨8388593, 1, 0⟩]⟩, ⟨Sx, ps, st⟩] []) (fun i _ => 17 - (intOf i).toNat)
  case atStart => exact ⟨0, Ss, sK 0, rfl, by omega, fun _ => rfl, fun h => by omega, H13.out⟩
  case round =>
    clear H13
    obtain ⟨k, Sx, st, rfl, hk, h1, h2, hw⟩ := hrel
    by_cases hlt : k < 17
    · obtain rfl := h1 hlt
      have HW := Lib.hid hw
      have k17 : (k : Int) < 17 := by omega
      clear h1 h2 hw
      go_wp2_with fail
      refine (wd_until (pre := [_, _, _]) (rs := []) HW.out 1152921504606846971 (by omega) (by omega)).mono ?_
      rintro e w15 ⟨v, Sy, rfl, h⟩
      have H15 := Lib.hid (h.drop (pre := []) (post := []))
      clear h
      go_wp2_with fail
      go_roundw
      case rel => exact ⟨k + 1, Sy, (untilP (sK k) 1152921504606846971).1, by go_num, by omega, fun h => s_step k (by omega), (fun h => by obtain rfl : k = 16 := (by omega); exact s_last), H15.out⟩
      case measure => simp only [intOf]; omega
    · obtain rfl : k = 17 := by omega
      obtain rfl := h2 rfl
      have HW := Lib.hid hw
      clear h1 h2 hw
      go_wp2_with fail
      refine (wd_next (pre := [_, _, _]) (rs := []) HW.out (by omega) (by omega) (Nat.le_of_ble_eq_true rfl)).mono ?_
      rintro e w16 ⟨Sz, rfl, h⟩
      rw [s_n1, s_n2]
      simp only [slc]
      go_upto_region 21 with fail
      obtain ⟨wz, hz⟩ : ∃ x, x = w16.alloc (.cells #[.int .i64 0, .int .i64 0, .int .i64 0, .bool false] 42) := ⟨_, rfl⟩
      have H16 := Lib.hid (h.al (.cells #[.int .i64 0, .int .i64 0, .int .i64 0, .bool false] 42))
      rw [← hz] at H16 ⊢
      clear h HW hz
      go_wp2_with fail
      refine (wd_new (H16.out.al _) (by omega) _ 2 2 [⟨6, 6, 0⟩, ⟨2, 1, 0⟩] (ts_two wz ⟨6, 6, 0⟩ ⟨2, 1, 0⟩) (by kernel_rfl)).mono ?_
      rintro e w17 ⟨pu, Su, rfl, h⟩
      have H17 : Hid (Wd w.heap.size 2 w w17 [⟨Sa2, pa, (untilP la1 12).1⟩, ⟨Sq3, pq, (untilP lq2 12).1⟩, ⟨Sr, pr, newP [⟨1099511627689, 1, 0⟩, ⟨8388593, 1, 0⟩]⟩, ⟨Sz, ps, (nextP sEnd).1⟩, ⟨Su, pu, lu0⟩] []) := Lib.hid h
      clear h H16
      go_wp2_with fail
      refine (wd_until (pre := [_, _, _, _]) (rs := []) H17.out 8 (by omega) (by omega)).mono ?_
      rintro e w18 ⟨v, Su1, rfl, h⟩
      have H18 : Hid (Wd w.heap.size 2 w w18 [⟨Sa2, pa, (untilP la1 12).1⟩, ⟨Sq3, pq, (untilP lq2 12).1⟩, ⟨Sr, pr, newP [⟨1099511627689, 1, 0⟩, ⟨8388593, 1, 0⟩]⟩, ⟨Sz, ps, (nextP sEnd).1⟩, ⟨Su1, pu, lu1⟩] []) := Lib.hid (h.drop (pre := []) (post := []))
      clear h H17
      go_wp2_with fail
      refine (wd_set (pre := [_, _, _, _]) (rs := []) H18.out 0 ⟨1000, 1, 0⟩ (by omega) (by omega)).mono ?_
      rintro e w19 ⟨Su2, rfl, h⟩
      have H19 : Hid (Wd w.heap.size 3 w w19 [⟨Sa2, pa, (untilP la1 12).1⟩, ⟨Sq3, pq, (untilP lq2 12).1⟩, ⟨Sr, pr, newP [⟨1099511627689, 1, 0⟩, ⟨8388593, 1, 0⟩]⟩, ⟨Sz, ps, (nextP sEnd).1⟩, ⟨Su2, pu, lu2⟩] []) := Lib.hid h
      clear h H18
      go_wp2_with fail
      refine (wd_until (pre := [_, _, _, _]) (rs := []) H19.out 30 (by omega) (by omega)).mono ?_
      rintro e w20 ⟨vl, Su3, rfl, h⟩
      rw [lf_u] at h
      obtain ⟨L15, hL15⟩ : ∃ L : List Sl, L = [⟨1, 8, 9, true⟩, ⟨1, 9, 10, true⟩, ⟨1, 10, 11, true⟩, ⟨0, 11, 17, true⟩, ⟨1, 17, 18, true⟩, ⟨1, 18, 19, true⟩, ⟨1, 19, 20, true⟩, ⟨1, 20, 21, true⟩, ⟨1, 21, 22, true⟩, ⟨1, 22, 23, true⟩, ⟨1, 23, 24, false⟩, ⟨1, 24, 25, false⟩, ⟨0, 25, 26, false⟩, ⟨1, 26, 27, false⟩, ⟨1, 28, 29, false⟩] := ⟨_, rfl⟩
      rw [← hL15] at h
      have HL := Lib.hid (wB_end.trans hL15.symm)
      obtain ⟨PSL, hPS⟩ : ∃ P : List P1, P = [⟨Sa2, pa, (untilP la1 12).1⟩, ⟨Sq3, pq, (untilP lq2 12).1⟩, ⟨Sr, pr, newP [⟨1099511627689, 1, 0⟩, ⟨8388593, 1, 0⟩]⟩, ⟨Sz, ps, (nextP sEnd).1⟩, ⟨Su3, pu, (untilP lu2 30).1⟩] := ⟨_, rfl⟩
      have H20 : Hid (Wd w.heap.size 3 w w20 PSL ([(vl, L15)] ++ [(.slice none 0 0, [])])) := Lib.hid (by rw [hPS]; exact Wd.none h)
      have HPS := Lib.hid hPS
      clear h H19 hL15 hPS
      go_wp2_with fail
      go_loopw [24, 25] (fun v i wr => ∃ k : Nat, i = .int .i64 (8 + (k : Int)) ∧ k ≤ 3 ∧ Wd w.heap.size 3 w wr PSL ([(vl, L15)] ++ [(v, wA k)])) (fun _ i _ => 11 - (intOf i).toNat)
      case atStart => exact ⟨0, rfl, by omega, H20.out⟩
      case round =>
        clear H20
        obtain ⟨k, rfl, hk, hw⟩ := hrel
        have HW := Lib.hid hw
        have ow0 : wr.ownsRow w.heap.size 42 4 u24 (wA k).length (slv (wA k)) := hw.own (u24, wA k) (by simp)
        obtain ⟨aw, cw, rfl, _, _⟩ := own_form ow0
        have OW := Lib.hid ow0
        have lw := wA_len k
        have hB := hw.hB
        clear hw ow0
        by_cases hlt : k < 3
        · go_wp2_with (refine wpList_append_sl rfl (.tmp 139) (.tmp 144) rfl w.heap.size wr.heap.size (.slice aw (wA k).length cw) _ (wA k) [⟨1, 8 + (k : Int), 8 + (k : Int) + 1, true⟩] rfl (OW.out.alloc _) rfl (lit_own wr [⟨1, 8 + (k : Int), 8 + (k : Int) + 1, true⟩] (by simp)) (by omega) (by simp) (by rw [al_size]; omega) ?_; intro v6 w6 ow6 gr6 hat6; have NX := Lib.hid (HW.out.grow ow6 gr6 hat6); clear ow6 gr6 hat6)
          go_roundw
          case rel => exact ⟨k + 1, by go_num, by omega, NX.out⟩
          case measure => simp only [intOf]; omega
        · obtain rfl : k = 3 := by omega
          go_wp2_with (refine wpList_append_sl rfl (.tmp 146) (.tmp 148) rfl w.heap.size wr.heap.size (.slice aw (wA 3).length cw) _ (wA 3) [⟨0, 11, 17, true⟩] rfl (OW.out.alloc _) rfl (lit_own wr [⟨0, 11, 17, true⟩] (by simp)) (by omega) (by simp) (by rw [al_size]; omega) ?_; intro v6 w6 ow6 gr6 hat6; have NX : Hid (Wd w.heap.size 3 w w6 PSL ([(vl, L15)] ++ [(v6, wB 0)])) := Lib.hid (HW.out.grow ow6 gr6 hat6); clear ow6 gr6 hat6)
          go_loopw [24, 26] (fun v i wr => ∃ k : Nat, i = .int .i64 (17 + (k : Int)) ∧ k ≤ 8 ∧ Wd w.heap.size 3 w wr PSL ([(vl, L15)] ++ [(v, wB k)])) (fun _ i _ => 25 - (intOf i).toNat)
          case atStart => exact ⟨0, rfl, by omega, NX.out⟩
          case round =>
            clear NX OW HW lw hB hlt
            obtain ⟨k, rfl, hk, hw⟩ := hrel
            have HW := Lib.hid hw
            have ow0 : wr.ownsRow w.heap.size 42 4 u24 (wB k).length (slv (wB k)) := hw.own (u24, wB k) (by simp)
            obtain ⟨aw, cw, rfl, _, _⟩ := own_form ow0
            have OW := Lib.hid ow0
            have lw := wB_len k
            have hB := hw.hB
            clear hw ow0
            by_cases hlt : k < 8
            · have wb : Hid (wB (k + 1) = wB k ++ [⟨1, 17 + (k : Int), 17 + (k : Int) + 1, decide (17 + (k : Int) < 23)⟩]) := Lib.hid rfl
              obtain ⟨bk, hbk⟩ : ∃ b, decide (17 + (k : Int) < 23) = b := ⟨_, rfl⟩
              rw [hbk] at wb
              cases bk with
              | true =>
                have k23 : 17 + (k : Int) < 23 := of_decide_eq_true hbk
                clear hbk
                go_wp2_with (refine wpList_append_sl rfl (.tmp 154) (.tmp 161) rfl w.heap.size wr.heap.size (.slice aw (wB k).length cw) _ (wB k) [⟨1, 17 + (k : Int), 17 + (k : Int) + 1, true⟩] rfl (OW.out.alloc _) rfl (lit_own wr [⟨1, 17 + (k : Int), 17 + (k : Int) + 1, true⟩] (by simp)) (by omega) (by simp) (by rw [al_size]; omega) ?_; intro v6 w6 ow6 gr6 hat6; have NX := Lib.hid (HW.out.grow ow6 gr6 hat6); clear ow6 gr6 hat6)
                go_roundw
                case rel => exact ⟨k + 1, by go_num, by omega, by rw [wb.out]; exact NX.out⟩
                case measure => simp only [intOf]; omega
              | false =>
                have k23 : ¬ 17 + (k : Int) < 23 := of_decide_eq_false hbk
                clear hbk
                obtain rfl | rfl : k = 6 ∨ k = 7 := by omega
                · clear k23 hlt
                  go_wp2_with (refine wpList_append_sl rfl (.tmp 154) (.tmp 161) rfl w.heap.size wr.heap.size (.slice aw (wB 6).length cw) _ (wB 6) [⟨1, 23, 24, false⟩] rfl (OW.out.alloc _) rfl (lit_own wr [⟨1, 23, 24, false⟩] (by simp)) (by omega) (by simp) (by rw [al_size]; omega) ?_; intro v6 w6 ow6 gr6 hat6; have NX := Lib.hid (HW.out.grow ow6 gr6 hat6); clear ow6 gr6 hat6)
                  go_roundw
                  case rel => exact ⟨7, by go_num, by omega, by rw [wb.out]; exact NX.out⟩
                  case measure => simp only [intOf]; omega
                · clear k23 hlt
                  go_wp2_with (refine wpList_append_sl rfl (.tmp 154) (.tmp 161) rfl w.heap.size wr.heap.size (.slice aw (wB 7).length cw) _ (wB 7) [⟨1, 24, 25, false⟩] rfl (OW.out.alloc _) rfl (lit_own wr [⟨1, 24, 25, false⟩] (by simp)) (by omega) (by simp) (by rw [al_size]; omega) ?_; intro v6 w6 ow6 gr6 hat6; have NX := Lib.hid (HW.out.grow ow6 gr6 hat6); clear ow6 gr6 hat6)
                  go_roundw
                  case rel => exact ⟨8, by go_num, by omega, by rw [wb.out]; exact NX.out⟩
                  case measure => simp only [intOf]; omega
            · obtain rfl : k = 8 := by omega
              go_wp2_with (refine wpList_append_sl rfl (.tmp 163) (.tmp 167) rfl w.heap.size wr.heap.size (.slice aw (wB 8).length cw) _ (wB 8) [⟨0, 25, 26, false⟩, ⟨1, 26, 27, false⟩, ⟨1, 28, 29, false⟩] rfl (OW.out.alloc _) rfl (lit_own wr [⟨0, 25, 26, false⟩, ⟨1, 26, 27, false⟩, ⟨1, 28, 29, false⟩] (by simp)) (by omega) (by simp) (by rw [al_size]; omega) ?_; intro v6 w6 ow6 gr6 hat6; have NX : Hid (Wd w.heap.size 3 w w6 PSL ([(vl, L15)] ++ [(v6, L15)])) := Lib.hid (by rw [← HL.out]; rw [← HL.out] at HW; exact HW.out.grow ow6 gr6 hat6); obtain ⟨a6, c6, rfl, sb6⟩ := sl_own (show w6.ownsRow w.heap.size 42 4 v6 L15.length (slv L15) from NX.out.own (v6, L15) (by simp)); have SB := Lib.hid sb6; clear ow6 gr6 hat6 sb6)
              refine (wd_str (pre := []) (post := [_]) NX.out a6 c6 SB.out (fun g hg q hq e => by
                have d := NX.out.dis
                rw [List.pairwise_append] at d
                have := d.2.2 (vl, L15) (by simp) (.slice a6 L15.length c6, L15) (by simp) g hg
                obtain ⟨qb, qo, qs⟩ := q
                exact absurd e (fun e => by
                  have w0 := NX.out.own (.slice a6 L15.length c6, L15) (by simp)
                  rcases w0.2 with ⟨h0, _⟩ | ⟨g2, cap2, cur2, h0, _⟩
                  · simp only [Value.slice.injEq] at h0; rw [h0.1] at hq; cases hq
                  · simp only [Value.slice.injEq] at h0
                    rw [h0.1] at hq; cases hq
                    exact this (by simp only at e; subst e; show (Value.slice a6 L15.length c6).ownBlock = _; rw [h0.1]; rfl))) (by rw [← HL.out]; simp [wB_len])).mono ?_
              rintro e w30 ⟨rfl, h⟩
              have H30 := Lib.hid h
              clear h NX SB OW HW lw hB hlt
              go_wp2_with fail
              refine (wd_now (pre := [_, _, _]) (HPS.out ▸ H30.out)).mono ?_
              rintro e w31 ⟨rfl, rfl⟩
              rw [s_n3]
              go_wp2_with fail
              go_ret
              exact ⟨rfl, H30.out.b⟩
end Go.Proofs.Ytgdkmakmdomdbaa
