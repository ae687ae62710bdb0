import Derived.Test.YtgdkmakmdomdbaaPnRo
set_option autoImplicit false
set_option linter.unusedVariables false
namespace Go.Proofs.Ytgdkmakmdomdbaa
open Go.RowKit Lk Pn
/-- a slice of bytes -/
structure S8 (w : World) (a : Option Addr) (n cap : Nat) (M : List Int) : Prop where
  len : M.length = n
  le : n ≤ cap
  small : cap ≤ 9223372036854775807
  cells : n = 0 ∨ ∃ b off, a = some ⟨b, off, none⟩ ∧ b < w.heap.size ∧ ∀ (j : Nat) x, M[j]? = some x → w.cell? ⟨b, off + j, none⟩ = some (.int .u8 x)
  bd : ∀ x ∈ M, 0 ≤ x ∧ x ≤ 255
theorem S8.at {w : World} {a : Option Addr} {n cap : Nat} {M : List Int} (h : S8 w a n cap M) {k : Nat} (hk : k < n) : ∃ b off x, a = some ⟨b, off, none⟩ ∧ b < w.heap.size ∧ w.cell? ⟨b, off + k, none⟩ = some (.int .u8 x) ∧ 0 ≤ x ∧ x ≤ 255 := by
  rcases h.cells with h0 | ⟨b, off, ha, hb, hc⟩
  · omega
  · have hl : k < M.length := by rw [h.len]; exact hk
    obtain ⟨h1, h2⟩ := h.bd M[k] (List.getElem_mem hl)
    exact ⟨b, off, M[k], ha, hb, hc k _ (List.getElem?_eq_getElem hl), h1, h2⟩
set_option maxRecDepth 100000 in
set_option maxHeartbeats 4000000 in
theorem rows_law (a : Option Addr) (n cap : Nat) (L : List Tk) (a2 : Option Addr) (n2 cap2 : Nat) (M2 : List Int) (x : Int) (w : World) (ts : Ts w a n cap L) (ms : S8 w a2 n2 cap2 M2) (x1 : 0 ≤ x) (x2 : x ≤ 65535) :
    Calls Try.prog 6 #[.slice a n cap, .slice a2 n2 cap2, .int .u16 x] w (fun e w' => e = .returned (.bool true) ∧ Below w.heap.size w w') := by
  have MS := Lib.hid ms
  have m63 : n2 ≤ 9223372036854775807 := Nat.le_trans ms.le ms.small
  have mc := ms.le
  have mc2 := ms.small
  have FW := few_walk 60 (by omega) (by omega) a n cap L w ts
  obtain ⟨N, hN⟩ : ∃ N, N = min n 12 := ⟨_, rfl⟩
  rw [← hN] at FW
  obtain ⟨F, hF⟩ : ∃ F, F = fewK 60 L N := ⟨_, rfl⟩
  rw [← hF] at FW
  have flen : F.length = N := by rw [hF]; exact fewK_len (by rw [ts.len]; omega)
  have fm : ∀ t ∈ F, mayT t = true := fun t ht => (fewK_may (k := N) (L := L) (m := 60) (by omega) (by omega) t (hF ▸ ht)).1
  have hE : newE F = 0 := by
    unfold newE
    rw [if_neg (by omega), if_pos (List.all_eq_true.2 fm)]
  have N12 : N ≤ 12 := by omega
  have HE := Lib.hid hE
  have FL := Lib.hid flen
  obtain ⟨E, hx⟩ : ∃ E : Nat, x % 600 + 1 = (E : Int) := ⟨(x % 600 + 1).toNat, by omega⟩
  have EB : 1 ≤ E ∧ E ≤ 600 := by omega
  have HXE := Lib.hid hx
  clear ts ms hN hF flen fm hE hx
  go_enter Try.func6, Try.ntmps6
  go_wp2_with fail
  refine FW.mono ?_
  rintro e w1 ⟨v, rfl, ow, b1⟩
  obtain ⟨a1, c1, rfl, ts1⟩ := ts_own ow
  have B1 := Lib.hid b1
  have T1 := Lib.hid ts1
  have q1 := ts1.le
  have q2 := ts1.small
  clear FW ow b1 ts1
  go_wp2_with fail
  rw [HXE.out]
  refine (c_new w.heap.size a1 N c1 F _ T1.out B1.out.size HE.out).mono ?_
  rintro e w2 ⟨p, S1, rfl, h2, hs1, b2⟩
  have B2 := Lib.hid (B1.out.trans (b2.mono B1.out.size))
  have P2 := Lib.hid h2
  have T2 := Lib.hid (T1.out.keep b2)
  clear b2 h2 T1 B1 hs1
  go_wp2_with fail
  refine (c_new w.heap.size a1 N c1 F _ T2.out B2.out.size HE.out).mono ?_
  rintro e w3 ⟨q, S2, rfl, h3, hs2, b3⟩
  have B3 := Lib.hid (B2.out.trans (b3.mono B2.out.size))
  have P3 := Lib.hid (P2.out.below b3)
  have Q3 := Lib.hid h3
  have D3 := Lib.hid (show ∀ k, S1 k → ¬ S2 k from fun k h1 h2 => by have := P2.out.inS k h1; have := hs2 k h2; omega)
  clear b3 h3 T2 B2 P2 hs2
  go_wp2_with fail
  refine (c_until w.heap.size 1 (by omega) (Nat.le_refl _) p S1 _ E w3 P3.out B3.out.size (inv_new HE.out)).mono ?_
  rintro e w4 ⟨u, S1', rfl, ow, h4, hs4, hn4, f4⟩
  obtain ⟨outs, hO⟩ : ∃ o, o = (untilP (newP F) E).2 := ⟨_, rfl⟩
  rw [← hO] at ow
  obtain ⟨a5, c5, rfl, sa⟩ := sl_own ow
  have HO := Lib.hid hO
  have uS2 : ∀ g, (Value.slice a5 outs.length c5).ownBlock = some g → ¬ S2 g ∧ g < w4.heap.size := fun g hg => ⟨fun e => by have := (own_lt ow hg).1; have := Q3.out.inS g e; omega, (own_lt ow hg).2⟩
  have R4 : Hid (RwM p q w w4 S1' S2 (untilP (newP F) E).1 (newP F) w4.heap.size w3.heap.size (.slice a5 outs.length c5) (.slice none 0 0) outs []) := Lib.hid
    ⟨B3.out.trans (P3.out.frb f4 B3.out.size), by have := B3.out.size; have := f4.size; omega, Nat.le_refl _, h4, Q3.out.apart f4 (fun k h1 h2 => D3.out k h2 h1), fun k h1 h2 => (hs4 k h1).elim (fun e => D3.out k e h2) (fun e => by have := Q3.out.inS k h2; omega), ow, uS2, World.ownsRow_nil _ _ _ _, fun g hg => by cases hg⟩
  have I4 := Lib.hid (rwi_new (last := (E : Int)) HE.out (by omega) (by omega))
  generalize hM : outs.length = M at R4 sa ⊢
  have s63 := sa.small
  have sle := sa.le
  clear ow sa hO h4 f4 hs4 hn4 P3 Q3 D3 B3 uS2
  go_wp2_with fail
  have WK : ∀ (w9 : World), Below w.heap.size w w9 → Calls Try.prog 9 #[] w9 (fun e w' => e = .returned (.bool true) ∧ Below w.heap.size w w') := fun w9 h9 => (wakes_walk w9).mono fun e w' h => ⟨h.1, h9.trans (h.2.mono h9.size)⟩
  go_loopw [14, 15, 16] (fun vp va vi wr => ∃ (k : Nat) (at_ : Int) (parts : List Sl) (Sq : Nat → Prop) (stq : Pl), vi = .int .i64 k ∧ va = .int .i64 at_ ∧ k ≤ n2 ∧ 0 ≤ at_ ∧ RwM p q w wr S1' Sq (untilP (newP F) E).1 stq w4.heap.size w3.heap.size (.slice a5 M c5) vp outs parts ∧ RwI F E at_ stq parts) (fun _ _ i _ => n2 - (intOf i).toNat)
  case atStart => exact ⟨0, 0, [], S2, newP F, rfl, rfl, by omega, by omega, R4.out, I4.out⟩
  case round =>
    obtain ⟨k, at_, parts, Sq, stq, rfl, rfl, hk, h0, R, I⟩ := hrel
    have HR := Lib.hid R
    have HI := Lib.hid I
    have ae := I.le
    have pl := rise_len h0 I.rise
    clear R I R4 I4
    by_cases hlt : k < n2 ∧ at_ < E
    · obtain ⟨l1, l2⟩ := hlt
      obtain ⟨b, off, y, rfl, hb1, c0, y1, y2⟩ := MS.out.at l1
      have cc : ∀ w9, Below w.heap.size w w9 → w9.cell? ⟨b, off + k, none⟩ = some (.int .u8 y) := fun w9 h9 => (h9.cell (p := ⟨b, off + k, none⟩) hb1).trans c0
      have ccr := cc _ HR.out.b
      have bl : b < ‹World›.heap.size := Nat.lt_of_lt_of_le hb1 HR.out.b.size
      obtain ⟨T, hT⟩ : ∃ T, (if at_ + y % 40 < (E : Int) then at_ + y % 40 else (E : Int)) = T := ⟨_, rfl⟩
      have T1 : at_ ≤ T ∧ T ≤ E := by rw [← hT]; split <;> omega
      clear cc c0 hb1
      go_wp2_with fail
      refine (c_until w.heap.size 1 (by omega) (Nat.le_refl _) q Sq stq T wr HR.out.pq HR.out.b.size HI.out.inv).mono ?_
      rintro e w5 ⟨v5, S5, rfl, ow5, h5, hs5, _, f5⟩
      have OP := Lib.hid (own_keep (w' := w5) HR.out.own fun g hg => f5.block g (own_lt HR.out.own hg).2 (HR.out.vn g hg).1)
      have BZ := Lib.hid (Nat.le_trans HR.out.B1 f5.size)
      have STP := Lib.hid (rwi_step HI.out T1.1 T1.2 (by omega))
      obtain ⟨tl, htl⟩ : ∃ tl, tl = (untilP stq T).2 := ⟨_, rfl⟩
      rw [← htl] at ow5
      have tlen : tl.length ≤ 1000000 := by
        have h1 := rise_untilP HI.out.inv (T := T) (by omega)
        have h2 := HI.out.now
        have := rise_len (by omega) h1
        rw [← htl] at this; omega
      have HTL := Lib.hid htl
      have F5' := Lib.hid f5
      have P5 := Lib.hid h5
      have HS5 := Lib.hid hs5
      have OW5 := Lib.hid ow5
      clear ow5 h5 hs5 f5 htl ccr bl
      go_wp2_with (refine wpList_append_sl rfl (.tmp 77) (.tmp 80) rfl w4.heap.size wr.heap.size _ _ parts tl rfl OP.out rfl OW5.out (by omega) tlen BZ.out ?_; intro v6 w6 ow6 gr6 hat6; have NX := Lib.hid (HR.out.next OW5.out P5.out HS5.out F5'.out ow6 gr6 hat6); clear ow6 gr6 hat6)
      go_roundw
      case rel => exact ⟨k + 1, T, _, _, _, by go_num, rfl, by omega, by omega, NX.out, by rw [HTL.out]; exact STP.out⟩
      case measure => simp only [intOf]; omega
    · have hz : (¬ (k : Int) < (n2 : Int)) ∨ ((k : Int) < (n2 : Int) ∧ ¬ at_ < (E : Int)) := by omega
      have PN := Lib.hid (rwi_step (rwi_new (last := (E : Int)) HE.out (by omega) (by omega)) (show (0 : Int) ≤ E by omega) (Int.le_refl _) (by omega)).now
      rcases hz with z | ⟨z1, z2⟩
      all_goals
        go_wp2_with fail
        refine (c_until w.heap.size 1 (by omega) (Nat.le_refl _) q Sq stq E wr HR.out.pq HR.out.b.size HI.out.inv).mono ?_
        rintro e w5 ⟨v5, S5, rfl, ow5, h5, hs5, _, f5⟩
        have OP := Lib.hid (own_keep (w' := w5) HR.out.own fun g hg => f5.block g (own_lt HR.out.own hg).2 (HR.out.vn g hg).1)
        have BZ := Lib.hid (Nat.le_trans HR.out.B1 f5.size)
        have STP := Lib.hid (rwi_step HI.out ae (Int.le_refl _) (by omega))
        obtain ⟨tl, htl⟩ : ∃ tl, tl = (untilP stq E).2 := ⟨_, rfl⟩
        rw [← htl] at ow5
        have tlen : tl.length ≤ 1000000 := by
          have h1 := rise_untilP HI.out.inv (T := (E : Int)) (by omega)
          have h2 := HI.out.now
          have := rise_len (by omega) h1
          rw [← htl] at this; omega
        have STQ : Hid (RwI F E E (untilP stq E).1 (parts ++ tl)) := Lib.hid (by rw [htl]; exact STP.out)
        have F5' := Lib.hid f5
        have P5 := Lib.hid h5
        have HS5 := Lib.hid hs5
        have OW5 := Lib.hid ow5
        clear ow5 h5 hs5 f5 htl STP
        go_wp2_with (refine wpList_append_sl rfl (.tmp 82) (.tmp 85) rfl w4.heap.size wr.heap.size _ _ parts tl rfl OP.out rfl OW5.out (by omega) tlen BZ.out ?_; intro v6 w6 ow6 gr6 hat6; have NX := Lib.hid (HR.out.next OW5.out P5.out HS5.out F5'.out ow6 gr6 hat6); obtain ⟨a6, c6, rfl, sb⟩ := sl_own ow6; have SB := Lib.hid sb; have sb1 := sb.le; have sb2 := sb.small; clear ow6 gr6 hat6 sb)
        have SA6 : Hid (SlA _ a5 M c5 outs) := Lib.hid (by obtain ⟨a', c', e, s⟩ := sl_own NX.out.uo; cases e; exact s)
        have B6 := Lib.hid NX.out.b
        have P6 := Lib.hid NX.out.pp
        have Q6 := Lib.hid NX.out.pq
        have RE := Lib.hid (rwi_end STQ.out)
        have RI := Lib.hid STQ.out.rise
        have QN := Lib.hid STQ.out.now
        rw [List.length_append] at SB sb1
        generalize parts.length + tl.length = ml at SB sb1 ⊢
        generalize parts ++ tl = al at SB RE RI
        clear NX STQ
        refine (ticks_walk a5 M c5 outs E EB.1 (by omega) _ SA6.out (by rw [HO.out]; exact rise_untilP (inv_new HE.out) (by omega))).mono ?_
        rintro e w7 ⟨ga, rfl, ta⟩
        have B7 := Lib.hid (B6.out.trans (ta.b.mono B6.out.size))
        have P7 := Lib.hid (P6.out.below ta.b)
        have Q7 := Lib.hid (Q6.out.below ta.b)
        have SB7 := Lib.hid (SB.out.keep ta.b)
        have SA7 := Lib.hid (SA6.out.keep ta.b)
        have TA7 := Lib.hid ta
        clear ta B6 P6 Q6 SB SA6
        go_wp2_with fail
        refine (ticks_walk a6 ml c6 al E EB.1 (by omega) w7 SB7.out RI.out).mono ?_
        rintro e w8 ⟨gb, rfl, tb⟩
        have B8 := Lib.hid (B7.out.trans (tb.b.mono B7.out.size))
        have P8 := Lib.hid (P7.out.below tb.b)
        have Q8 := Lib.hid (Q7.out.below tb.b)
        have SA8 := Lib.hid (SA7.out.keep tb.b)
        have CA8 : Hid (∀ i, i < E → w8.cell? ⟨ga, i, none⟩ = some (.int .i64 (runS outs i))) := Lib.hid (fun i hi => (tb.b.cell (p := ⟨ga, i, none⟩) TA7.out.lt).trans (TA7.out.cell hi))
        have CB8 : Hid (∀ i, i < E → w8.cell? ⟨gb, i, none⟩ = some (.int .i64 (runS outs i))) := Lib.hid (fun i hi => by rw [tb.cell hi, HO.out, RE.out])
        have GL8 := Lib.hid (show ga < w8.heap.size ∧ gb < w8.heap.size from ⟨Nat.lt_of_lt_of_le TA7.out.lt tb.b.size, tb.lt⟩)
        clear tb B7 P7 Q7 SB7 SA7 TA7 RE RI
        go_wp2_with fail
        refine (c_now w.heap.size p S1' _ w8 P8.out).mono ?_
        rintro e w9 ⟨rfl, rfl⟩
        rw [PN.out]
        go_wp2_with fail
        refine (c_now w.heap.size q S5 _ w8 Q8.out).mono ?_
        rintro e w9 ⟨rfl, rfl⟩
        rw [QN.out]
        have TK := Lib.hid (show ∀ s ∈ outs, 0 ≤ s.task ∧ s.task < (N : Int) from fun s hs => by
          have := task_untilP (T := (E : Int)) (inv_new HE.out) s (by rw [← HO.out]; exact hs)
          rw [show (newP F).l.length = N by unfold newP; rw [List.length_map, FL.out]] at this; exact this)
        clear PN QN P8 Q8
        go_wp2_with fail
        go_loopw [21] (fun vi wr2 => ∃ i : Nat, vi = .int .i64 i ∧ i ≤ E ∧ Below w8.heap.size w8 wr2) (fun vi _ => E - (intOf vi).toNat)
        case atStart => exact ⟨0, rfl, by omega, Below.refl _ _⟩
        case round =>
          obtain ⟨i, rfl, hi, bb⟩ := hrel
          have BB := Lib.hid bb
          clear bb
          by_cases hie : i < E
          · have ca := (BB.out.cell (p := ⟨ga, i, none⟩) GL8.out.1).trans (CA8.out i hie)
            have cb := (BB.out.cell (p := ⟨gb, i, none⟩) GL8.out.2).trans (CB8.out i hie)
            have g1 := Nat.lt_of_lt_of_le GL8.out.1 BB.out.size
            have g2 := Nat.lt_of_lt_of_le GL8.out.2 BB.out.size
            generalize runS outs i = rv at ca cb
            have hiE : (i : Int) < (E : Int) := by omega
            go_wp2_with fail
            go_quiet (fail)
            go_wp2_with fail
            go_roundw
            case rel => exact ⟨i + 1, by go_num, by omega, below_drewN BB.out _⟩
            case measure => simp only [intOf]; omega
          · have hiE : ¬ (i : Int) < (E : Int) := by omega
            go_wp2_with fail
            go_loopw [22] (fun vi wr2 => ∃ j : Nat, vi = .int .i64 j ∧ 1 ≤ j ∧ j ≤ M + 1 ∧ Below w8.heap.size w8 wr2) (fun vi _ => M + 1 - (intOf vi).toNat)
            case atStart => exact ⟨1, rfl, by omega, by omega, BB.out⟩
            case round =>
              obtain ⟨j, rfl, j1, j2, b9⟩ := hrel
              have BB9 := Lib.hid b9
              clear b9
              by_cases hjm : j < M
              · obtain ⟨b', s', rfl, hb', hx', A⟩ := (SA8.out.keep BB9.out).at hjm
                obtain ⟨t0, t1⟩ := TK.out s' (List.mem_of_getElem? hx')
                have c0 := A.c0
                clear A hx'
                generalize s'.task = tsk at c0 t0 t1
                have hjm2 : (j : Int) < (M : Int) := by omega
                have t2 : ¬ tsk < 0 := by omega
                have t3 : ¬ (N : Int) ≤ tsk := by omega
                go_wp2_with fail
                go_roundw
                case rel => exact ⟨j + 1, by go_num, by omega, by omega, BB9.out⟩
                case measure => simp only [intOf]; omega
              · have hjm2 : ¬ (j : Int) < (M : Int) := by omega
                go_wp2_with fail
                refine (WK _ (B8.out.trans (BB9.out.mono B8.out.size))).mono ?_
                rintro e w9 ⟨rfl, b9⟩
                have B9 := Lib.hid b9
                clear b9
                go_wp2_with fail
                go_ret
                exact ⟨rfl, B9.out⟩
end Go.Proofs.Ytgdkmakmdomdbaa
