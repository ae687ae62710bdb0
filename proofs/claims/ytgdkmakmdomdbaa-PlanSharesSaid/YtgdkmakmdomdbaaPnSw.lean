import Derived.Test.YtgdkmakmdomdbaaPnTi
import Derived.Test.YtgdkmakmdomdbaaPnSh
import Derived.Test.YtgdkmakmdomdbaaPnAr
import Derived.Deep.DeepCutAuto
set_option autoImplicit false
set_option linter.unusedVariables false
namespace Go.Proofs.Ytgdkmakmdomdbaa
open Go.RowKit Lk Pn
def F5 (L : List Tk) (N : Nat) : List Tk := (fewK 7 L N).take 5
theorem f5_may {L : List Tk} {N : Nat} : ∀ t ∈ F5 L N, mayT t = true ∧ t.ev ≤ 7 := fun t ht => fewK_may (m := 7) (by omega) (by omega) t (List.mem_of_mem_take ht)
theorem d420 {e : Int} (h1 : 1 ≤ e) (h7 : e ≤ 7) : e ∣ 420 := by
  have : e = 1 ∨ e = 2 ∨ e = 3 ∨ e = 4 ∨ e = 5 ∨ e = 6 ∨ e = 7 := by omega
  rcases this with rfl | rfl | rfl | rfl | rfl | rfl | rfl <;> decide
theorem ts_take {w : World} {a : Option Addr} {n cap : Nat} {L : List Tk} (h : Ts w a n cap L) {k : Nat} (hk : k ≤ n) : Ts w a k cap (L.take k) := by
  refine ⟨by simp [h.len]; omega, by have := h.le; omega, h.small, ?_⟩
  rcases h.cells with h0 | ⟨b, off, ha, hb, hc⟩
  · exact .inl (by omega)
  · exact .inr ⟨b, off, ha, hb, fun j t ht => hc j t (by rw [List.getElem?_take] at ht; split at ht; exact ht; cases ht)⟩
theorem Ts.blocks {w w' : World} {a : Option Addr} {n cap : Nat} {L : List Tk} (h : Ts w a n cap L) (hs : w.heap.size ≤ w'.heap.size) (b : ∀ k, k < w.heap.size → w'.heap[k]? = w.heap[k]?) : Ts w' a n cap L :=
  ⟨h.len, h.le, h.small, h.cells.imp id fun ⟨g, off, ha, hg, hc⟩ => ⟨g, off, ha, Nat.lt_of_lt_of_le hg hs, fun j t ht => (hc j t ht).of_block (b g hg)⟩⟩
theorem f5_load {F : List Tk} (hl : F.length ≤ 5) (h : ∀ t ∈ F, mayT t = true ∧ t.ev ≤ 7) : 0 < (loadF F).2 := by
  refine load_pos (H := 420) (by omega) (by omega) (by omega) fun t ht => ?_
  obtain ⟨h1, h2⟩ := h t ht
  obtain ⟨a, b, c, d⟩ := mayT_iff.1 h1
  refine ⟨by omega, ?_, by omega⟩
  have := d420 a h2
  have e : ((t.ev.toNat : Nat) : Int) ∣ ((420 : Nat) : Int) := by rw [Int.toNat_of_nonneg (by omega)]; exact this
  exact Int.natCast_dvd_natCast.1 e
set_option maxRecDepth 100000 in
set_option maxHeartbeats 4000000 in
theorem shares_law (a : Option Addr) (n cap : Nat) (L : List Tk) (w : World) (ts : Ts w a n cap L) :
    Calls Try.prog 7 #[.slice a n cap] w (fun e w' => e = .returned (.bool true) ∧ Below w.heap.size w w') := by
  have FW := few_walk 7 (by omega) (by omega) a n cap L w ts
  obtain ⟨N0, hN⟩ : ∃ N, N = min n 12 := ⟨_, rfl⟩
  rw [← hN] at FW
  obtain ⟨F, hF⟩ : ∃ F, F = F5 L N0 := ⟨_, rfl⟩
  have flen0 : (fewK 7 L N0).length = N0 := fewK_len (by rw [ts.len]; omega)
  have flen : F.length = min 5 N0 := by rw [hF]; unfold F5; simp [flen0]
  have fm : ∀ t ∈ F, mayT t = true ∧ t.ev ≤ 7 := fun t ht => f5_may t (hF ▸ ht)
  have hE : newE F = 0 := by
    unfold newE
    rw [if_neg (by omega), if_pos (List.all_eq_true.2 fun t ht => (fm t ht).1)]
  have fT : F = (fewK 7 L N0).take 5 := hF
  have FM := Lib.hid fm
  have HE := Lib.hid hE
  have FL := Lib.hid flen
  have FT := Lib.hid fT
  have FL0 := Lib.hid flen0
  have N12 : N0 ≤ 12 := by omega
  clear ts hN hF flen flen0 fm hE fT
  go_enter Try.func7, Try.ntmps7
  go_wp2_with fail
  refine FW.mono ?_
  rintro e w1 ⟨v, rfl, ow, b1⟩
  obtain ⟨a1, c1, rfl, ts1⟩ := ts_own ow
  have B1 := Lib.hid b1
  have T1 := Lib.hid ts1
  have q1 := ts1.le
  have q2 := ts1.small
  clear FW ow b1 ts1
  go_upto_if 20 with fail
  go_cut [3] (fun s3 wx => ∃ (a2 : Option Addr) (N c2 : Nat), s3 = .slice a2 N c2 ∧ Ts wx a2 N c2 F ∧ Below w.heap.size w wx)
  case first =>
    by_cases g : 5 < N0
    · have gi : (5 : Int) < (N0 : Int) := by omega
      obtain ⟨b, off, t, rfl, _⟩ := T1.out.at (k := 0) (by omega)
      go_wp2_with fail
      go_meet
      exact ⟨_, 5, _, rfl, by have := ts_take T1.out (k := 5) (by omega); rwa [← FT.out] at this, B1.out⟩
    · have gi : ¬ (5 : Int) < (N0 : Int) := by omega
      go_wp2_with fail
      go_meet
      exact ⟨_, N0, _, rfl, by have := T1.out; rwa [show fewK 7 L N0 = F by rw [FT.out, List.take_of_length_le (by rw [FL0.out]; omega)]] at this, B1.out⟩
  case rest =>
    obtain ⟨a2, N, c2, rfl, ts2, b2⟩ := hcut
    have T2 := Lib.hid ts2
    have B2 := Lib.hid b2
    have q3 := ts2.le
    have q4 := ts2.small
    have NL := Lib.hid ts2.len
    have N5 : N ≤ 5 := by have := ts2.len; have := FL.out; omega
    clear ts2 b2 T1 B1 q1 q2 FT FL0
    go_wp2_with fail
    refine (c_new w.heap.size a2 N c2 F _ T2.out B2.out.size HE.out).mono ?_
    rintro e w2 ⟨p, S2, rfl, h2, hs2, b2⟩
    have HS2 := Lib.hid hs2
    have BW2 := Lib.hid b2
    have B3 := Lib.hid (B2.out.trans (b2.mono B2.out.size))
    have P3 := Lib.hid h2
    have I3 := Lib.hid (inv_new HE.out)
    clear b2 h2 B2 hs2
    go_wp2_with fail
    refine (c_until w.heap.size 1 (by omega) (Nat.le_refl _) p S2 _ 420 w2 P3.out B3.out.size I3.out).mono ?_
    rintro e w4 ⟨v, S4, rfl, ow, h4, _, _, f4⟩
    obtain ⟨a5, c5, rfl, sa⟩ := sl_own ow
    obtain ⟨outs, hO⟩ : ∃ o, o = (untilP (newP F) 420).2 := ⟨_, rfl⟩
    obtain ⟨st, hst⟩ : ∃ o, o = (untilP (newP F) 420).1 := ⟨_, rfl⟩
    rw [← hO] at sa ⊢
    rw [← hst] at h4
    have ub := P3.out.frb f4 B3.out.size
    have HO := Lib.hid hO
    have HST := Lib.hid hst
    have B4 := Lib.hid (B3.out.trans ub)
    have P4 := Lib.hid h4
    have I4 := Lib.hid (show Inv 1 st by rw [hst]; exact inv_until (Nat.le_refl _) I3.out)
    have T4 : Hid (Ts w4 a2 N c2 F) := Lib.hid (T2.out.blocks (by have := BW2.out.size; have := f4.size; omega) fun k hk => (f4.block k (Nat.lt_of_lt_of_le hk BW2.out.size) (fun e => by have := HS2.out k e; omega)).trans (BW2.out.block k hk))
    have SA4 := Lib.hid sa
    have s63 := sa.small
    have sle := sa.le
    have RS := Lib.hid (show Rise 0 420 outs by rw [hO]; exact rise_untilK (Nat.le_refl 1) (by omega) 65536 (newP F) I3.out)
    generalize hM : outs.length = M at s63 sle SA4 ⊢
    clear ow sa hO hst h4 f4 ub P3 B3 T2 HS2 BW2
    go_wp2_with fail
    refine (ticks_walk a5 M c5 outs 420 (by omega) (by omega) w4 SA4.out RS.out).mono ?_
    rintro e w5 ⟨g, rfl, tr⟩
    have B5 := Lib.hid (B4.out.trans (tr.b.mono B4.out.size))
    have P5 := Lib.hid (P4.out.below tr.b)
    have T5 := Lib.hid (T4.out.keep tr.b)
    have SA5 := Lib.hid (SA4.out.keep tr.b)
    have TR5 := Lib.hid tr
    clear tr B4 P4 T4 SA4 hM
    go_wp2_with fail
    have WK : ∀ (w9 : World), Below w.heap.size w w9 → Calls Try.prog 9 #[] w9 (fun e w' => e = .returned (.bool true) ∧ Below w.heap.size w w') := fun w9 h9 => (wakes_walk w9).mono fun e w' h => ⟨h.1, h9.trans (h.2.mono h9.size)⟩
    go_loopw [9] (fun i wr => ∃ k : Nat, i = .int .i64 k ∧ k ≤ M ∧ Below w5.heap.size w5 wr) (fun i _ => M - (intOf i).toNat)
    case atStart => exact ⟨0, rfl, by omega, Below.refl _ _⟩
    case round =>
      obtain ⟨k, rfl, hk, bb⟩ := hrel
      have BB := Lib.hid bb
      clear bb
      by_cases hlt : k < M
      · obtain ⟨b, s, rfl, hb, hx, A⟩ := (SA5.out.keep BB.out).at hlt
        have c3 := A.c3
        clear A hx
        cases hl : s.late with
        | true =>
          rw [hl] at c3
          go_wp2_with fail
          refine (WK _ (B5.out.trans (BB.out.mono B5.out.size))).mono ?_
          rintro e w6 ⟨rfl, b6⟩
          have B6 := Lib.hid b6
          clear b6 c3
          go_wp2_with fail
          go_ret
          exact ⟨rfl, B6.out⟩
        | false =>
          rw [hl] at c3
          go_wp2_with fail
          go_roundw
          case rel => exact ⟨k + 1, rfl, by omega, BB.out⟩
          case measure => simp only [intOf]; omega
      · go_wp2_with fail
        refine (c_load w.heap.size 1 (by omega) p S4 _ _ (P5.out.below BB.out) I4.out).mono ?_
        rintro e w6 ⟨rfl, b6⟩
        have BC := Lib.hid (BB.out.trans (b6.mono BB.out.size))
        clear b6 BB
        have tst : tks st.l = F := by rw [HST.out]; exact (tks_untilK 420 65536 (newP F)).trans (by unfold newP; simp [Function.comp_def])
        rw [tst]
        have LP := Lib.hid (f5_load (by have := FL.out; omega) FM.out)
        have LD := Lib.hid (fun h2 => ld_of_load (L := F) (fun t ht => (FM.out t ht).1) LP.out h2)
        generalize loadF F = ld at LP LD ⊢
        obtain ⟨nm, dn⟩ := ld
        simp only at LD LP ⊢
        by_cases g2 : dn < nm
        · have g2i : (dn : Int) < (nm : Int) := by omega
          go_wp2_with fail
          refine (WK _ (B5.out.trans (BC.out.mono B5.out.size))).mono ?_
          rintro e w7 ⟨rfl, b7⟩
          have B7 := Lib.hid b7
          clear b7
          go_wp2_with fail
          go_ret
          exact ⟨rfl, B7.out⟩
        · have g2i : ¬ (dn : Int) < (nm : Int) := by omega
          have LDL := Lib.hid (LD.out (by omega))
          have SH : Hid (∀ (i : Nat) t, F[i]? = some t → ∀ m : Nat, m * t.ev.toNat < 420 → cntN (fun k => runS outs k) i (m * t.ev.toNat) t.ev.toNat = t.lg) := Lib.hid (fun i t hi m hm => by
            rw [HO.out]
            exact shares_of (H := 420) HE.out LDL.out (by omega) (fun t ht => d420 (mayT_iff.1 (FM.out t ht).1).1 (FM.out t ht).2) hi hm)
          have TQ : Hid (Ts w6 a2 N c2 F) := Lib.hid (T5.out.keep BC.out)
          have BQ := Lib.hid (B5.out.trans (BC.out.mono B5.out.size))
          have RQ : Hid (∀ i, i < 420 → w6.cell? ⟨g, i, none⟩ = some (.int .i64 (runS outs i))) := Lib.hid (fun i hi => (BC.out.cell (p := ⟨g, i, none⟩) TR5.out.lt).trans (TR5.out.cell hi))
          have GQ := Lib.hid (Nat.lt_of_lt_of_le TR5.out.lt BC.out.size)
          clear LD LP tst LDL T5 BC B5 TR5 P5 SA5
          go_wp2_with fail
          go_loopw [12] (fun i wr => ∃ k : Nat, i = .int .i64 k ∧ k ≤ N ∧ Below w6.heap.size w6 wr) (fun i _ => N - (intOf i).toNat)
          case atStart => exact ⟨0, rfl, by omega, Below.refl _ _⟩
          case round =>
            obtain ⟨i, rfl, hi, bb⟩ := hrel
            have BB := Lib.hid bb
            clear bb
            by_cases hin : i < N
            · obtain ⟨b, off, t, rfl, hb, hx, A⟩ := (TQ.out.keep BB.out).at hin
              obtain ⟨hm1, hm7⟩ := FM.out t (List.mem_of_getElem? hx)
              obtain ⟨e1, _, l1, l2⟩ := mayT_iff.1 hm1
              have dv := d420 e1 hm7
              have HX := Lib.hid hx
              obtain ⟨E, hE⟩ : ∃ E, E = t.ev.toNat := ⟨_, rfl⟩
              have EE : t.ev = (E : Int) := by omega
              have DV := Lib.hid (show E ∣ 420 by rw [EE] at dv; exact Int.natCast_dvd_natCast.1 dv)
              have ST := Lib.hid (show ∀ m : Nat, m * E < 420 → cntN (fun k => runS outs k) i (m * E) E = t.lg by rw [hE]; exact SH.out i t hx)
              have E7 : 1 ≤ E ∧ E ≤ 7 := by omega
              have HEE := Lib.hid EE
              clear A hx dv hm1 hE EE hm7 e1
              go_wp2_with fail
              go_loopw [13] (fun v wr2 => ∃ m : Nat, v = .int .i64 ((m * E : Nat) : Int) ∧ m * E ≤ 420 ∧ Below w6.heap.size w6 wr2) (fun v _ => 420 - (intOf v).toNat)
              case atStart => exact ⟨0, by simp, by omega, BB.out⟩
              case round =>
                obtain ⟨m, rfl, hm, b3⟩ := hrel
                have BB3 := Lib.hid b3
                have HM := Lib.hid (show m * E < 420 → m * E + E ≤ 420 from fun h => by
                  obtain ⟨c, hc⟩ := DV.out
                  rw [hc, Nat.mul_comm E c] at h ⊢
                  have h1 : m < c := Nat.lt_of_mul_lt_mul_right h
                  have h2 := Nat.mul_le_mul_right E (show m + 1 ≤ c from h1)
                  rw [Nat.add_mul] at h2; omega)
                have HM1 := Lib.hid (show m * E + E = (m + 1) * E by rw [Nat.add_mul]; omega)
                have STM := Lib.hid (ST.out m)
                generalize m * E = fr at hm HM HM1 STM ⊢
                clear b3
                by_cases hf : fr < 420
                · have hfi : (fr : Int) < 420 := by omega
                  have hfe := HM.out hf
                  go_wp2_with fail
                  go_loopw [14, 15] (fun vh vk wr3 => ∃ j : Nat, vh = .int .i64 (cntN (fun k => runS outs k) i fr j) ∧ vk = .int .i64 ((fr + j : Nat) : Int) ∧ j ≤ E ∧ Below w6.heap.size w6 wr3) (fun _ vk _ => 420 - (intOf vk).toNat)
                  case atStart => exact ⟨0, rfl, rfl, by omega, BB3.out⟩
                  case round =>
                    obtain ⟨j, hvh, rfl, hj, b4⟩ := hrel
                    have BB4 := Lib.hid b4
                    obtain ⟨b', off', t', hab, hb', hx', A⟩ := (TQ.out.keep b4).at hin
                    cases hab
                    obtain rfl : t' = t := by rw [HX.out] at hx'; exact (Option.some.inj hx').symm
                    have c0 := A.c0
                    have c1 := A.c1
                    rw [HEE.out] at c0
                    by_cases hjE : j < E
                    · have cb := cntN_bd (fun k => runS outs k) i fr j
                      have C1 : Hid (cntN (fun k => runS outs k) i fr (j + 1) = cntN (fun k => runS outs k) i fr j + if runS outs ((fr + j : Nat) : Int) = i then 1 else 0) := Lib.hid rfl
                      have cr := (b4.cell (p := ⟨g, fr + j, none⟩) GQ.out).trans (RQ.out (fr + j) (by omega))
                      have gl := Nat.lt_of_lt_of_le GQ.out b4.size
                      generalize cntN (fun k => runS outs k) i fr j = cj at cb C1 hvh
                      generalize runS outs ((fr + j : Nat) : Int) = rv at cr C1
                      subst hvh
                      have hlt2 : ((fr + j : Nat) : Int) < (fr : Int) + (E : Int) := by omega
                      clear A hx' b4
                      by_cases hr : rv = (i : Int)
                      · subst hr
                        go_wp2_with fail
                        go_roundw
                        case rel => exact ⟨j + 1, by rw [C1.out, if_pos rfl], by go_num, by omega, BB4.out⟩
                        case measure => simp only [intOf]; omega
                      · have hri : (rv == (i : Int)) = false := by rw [beq_eq_false_iff_ne]; exact hr
                        go_wp2_with fail
                        go_roundw
                        case rel => exact ⟨j + 1, by rw [C1.out, if_neg hr]; simp, by go_num, by omega, BB4.out⟩
                        case measure => simp only [intOf]; omega
                    · obtain rfl : j = E := by omega
                      rw [STM.out hf] at hvh
                      subst hvh
                      have hge : ¬ ((fr + j : Nat) : Int) < (fr : Int) + (j : Int) := by omega
                      clear A hx' b4
                      go_wp2_with fail
                      go_roundw
                      case rel => exact ⟨m + 1, by rw [← HM1.out]; go_num, by rw [← HM1.out]; omega, BB4.out⟩
                      case measure => simp only [intOf]; omega
                · go_wp2_with fail
                  go_roundw
                  case rel => exact ⟨i + 1, by go_num, by omega, BB3.out⟩
                  case measure => simp only [intOf]; omega
            · go_wp2_with fail
              refine (WK _ (BQ.out.trans (BB.out.mono BQ.out.size))).mono ?_
              rintro e w7 ⟨rfl, b7⟩
              have B7 := Lib.hid b7
              clear b7
              go_wp2_with fail
              go_ret
              exact ⟨rfl, B7.out⟩
end Go.Proofs.Ytgdkmakmdomdbaa
