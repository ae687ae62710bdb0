import Derived.Test.YtdngkeefbpffcaaPsL
import Derived.Test.YtdngkeefbpffcaaPsK
import Derived.Test.YtdngkeefbpffcaaPsO
import Derived.Test.YtdngkeefbpffcaaFlN
import Derived.Test.YtdngkeefbpffcaaPlW
set_option autoImplicit false
set_option linter.unusedVariables false
namespace Go.Proofs.Ytdngkeefbpffcaa
open Go.RowKit Lk Pl
set_option maxRecDepth 100000 in
set_option maxHeartbeats 4000000 in
theorem apart_law (a : Option Addr) (n cap : Nat) (l : List Pt) (m s : Nat) (W : World) (h : Sp W a n cap l) (hb : ∀ q, a = some q → q.block < W.heap.size ∨ n = 0) (hm : m < 2 ^ 64) (hs : s < 2 ^ 64) :
    Calls Try.prog 8 #[.slice a n cap, .float .f64 m, .float .f64 s] W (fun e w' => e = .returned (.bool true) ∧ Below W.heap.size W w') := by
  have SP := Lib.hid h
  have HB := Lib.hid hb
  clear h hb
  by_cases big : 100 < n
  · have b2 : (100 : Int) < (n : Int) := by omega
    go_enter Try.func8, Try.ntmps8
    go_wp2_with fail
    refine (wakes_walk _).mono ?_
    rintro e w1 ⟨rfl, b1⟩
    have B1 := Lib.hid b1
    clear b1
    go_wp2_with fail
    go_ret
    exact ⟨rfl, B1.out⟩
  · have b2 : ¬ (100 : Int) < (n : Int) := by omega
    have n1 : n ≤ 100 := by omega
    have ln := Lib.hid SP.out.len
    clear big
    go_enter Try.func8, Try.ntmps8
    go_wp2_with fail
    go_loopw [7, 8] (fun v7 v8 wr => ∃ (i : Nat) (B : Bool), v7 = .bool B ∧ v8 = .int .i64 i ∧ i ≤ n ∧ (B = true ↔ Ap2 l m s i 0) ∧ Below W.heap.size W wr) (fun _ v8 _ => n - (intOf v8).toNat)
    case atStart => exact ⟨0, true, rfl, rfl, by omega, ⟨fun _ => Ap2.zero l m s, fun _ => rfl⟩, Below.refl _ _⟩
    case round =>
      obtain ⟨i, B, rfl, rfl, hi, hB, hw⟩ := hrel
      have BI := Lib.hid hB
      have WI := Lib.hid hw
      clear hB hw
      by_cases hlt : i < n
      · have l2 : (i : Int) < (n : Int) := by omega
        go_wp2_with fail
        go_loopw [7, 9] (fun v7 v9 wq => ∃ (j : Nat) (B : Bool), v7 = .bool B ∧ v9 = .int .i64 j ∧ j ≤ i ∧ (B = true ↔ Ap2 l m s i j) ∧ Below W.heap.size W wq) (fun _ v9 _ => i - (intOf v9).toNat)
        case atStart => exact ⟨0, B, rfl, rfl, by omega, BI.out, WI.out⟩
        case round =>
          clear BI WI
          obtain ⟨j, B, rfl, rfl, hj, hB, hw⟩ := hrel
          have BJ := Lib.hid hB
          have WJ := Lib.hid hw
          clear hB hw
          by_cases hjl : j < i
          · have l3 : (j : Int) < (i : Int) := by omega
            obtain ⟨R, hR⟩ : ∃ R, R = nearB m s (l.getD i pt0) (l.getD j pt0) := ⟨_, rfl⟩
            have HR := Lib.hid hR
            clear hR
            have SW := Lib.hid (SP.out.keep WJ.out)
            go_upto_region 10 with fail
            go_cut [57] from 28 to 57 (fun v wx => v = .bool R ∧ Below W.heap.size W wx)
            case first =>
              clear BJ SP HB
              obtain ⟨bp, op, p, rfl, hb, hp, ⟨p0, p1, p2, p3, p4⟩, ltp⟩ := SW.out.at (show i < n by omega)
              obtain ⟨bq, oq, q, eq, hbq, hq, ⟨q0, q1, q2, q3, q4⟩, ltq⟩ := SW.out.at (show j < n by omega)
              obtain ⟨rfl, rfl⟩ : bp = bq ∧ op = oq := by simpa using eq
              have gp : l.getD i pt0 = p := by rw [List.getD_eq_getElem?_getD, hp]; rfl
              have gq : l.getD j pt0 = q := by rw [List.getD_eq_getElem?_getD, hq]; rfl
              have HB0 : Hid (nearB m s p q = R) := Lib.hid (by rw [HR.out, gp, gq])
              have i1 : (i : Int) < (n : Int) := by omega
              have j1 : (j : Int) < (n : Int) := by omega
              clear p2 p3 p4 q2 q3 q4 hp hq ltp ltq eq hbq SW gp gq HR
              refine wp_region_J 30 (fun x => Below wr.heap.size wr x) (by kernel_rfl) rfl (by kernel_rfl) ((Below.refl _ wr).drew) (fun wj hJ hs => ?_)
              have HJ := Lib.hid hJ
              clear hJ
              (refine j_take 0 _ ?_ hs rfl rfl (by kernel_rfl) (by kernel_rfl) HJ.out (fun w' hw' => ?_) ?_; rotate_left; (· skip; go_simp; rfl); (go_simp))
              (refine j_take 1 _ ?_ hs rfl rfl (by kernel_rfl) (by kernel_rfl) HJ.out (fun w' hw' => ?_) ?_; rotate_left; (· skip; go_simp; rfl); (go_simp))
              (refine j_take 2 _ ?_ hs rfl rfl (by kernel_rfl) (by kernel_rfl) HJ.out (fun w' hw' => ?_) ?_; rotate_left; (· skip; go_simp; rfl); (go_simp))
              (refine j_take 3 _ ?_ hs rfl rfl (by kernel_rfl) (by kernel_rfl) HJ.out (fun w' hw' => ?_) ?_; rotate_left; (· skip; go_simp; rfl); (go_simp))
              (refine j_take 4 _ ?_ hs rfl rfl (by kernel_rfl) (by kernel_rfl) HJ.out (fun w' hw' => ?_) ?_; rotate_left; (· have d := (hw'.cell (p := ⟨bp, op + i * 5, none⟩) hb).trans p0; go_simp; rfl); (go_simp))
              (refine j_take 5 _ ?_ hs rfl rfl (by kernel_rfl) (by kernel_rfl) HJ.out (fun w' hw' => ?_) ?_; rotate_left; (· skip; go_simp; rfl); (go_simp))
              (refine j_take 6 _ ?_ hs rfl rfl (by kernel_rfl) (by kernel_rfl) HJ.out (fun w' hw' => ?_) ?_; rotate_left; (· skip; go_simp; rfl); (go_simp))
              (refine j_take 7 _ ?_ hs rfl rfl (by kernel_rfl) (by kernel_rfl) HJ.out (fun w' hw' => ?_) ?_; rotate_left; (· skip; go_simp; rfl); (go_simp))
              (refine j_take 8 _ ?_ hs rfl rfl (by kernel_rfl) (by kernel_rfl) HJ.out (fun w' hw' => ?_) ?_; rotate_left; (· skip; go_simp; rfl); (go_simp))
              (refine j_take 9 _ ?_ hs rfl rfl (by kernel_rfl) (by kernel_rfl) HJ.out (fun w' hw' => ?_) ?_; rotate_left; (· have d := (hw'.cell (p := ⟨bp, op + j * 5, none⟩) hb).trans q0; go_simp; rfl); (go_simp))
              (refine j_take 12 _ ?_ hs rfl rfl (by kernel_rfl) (by kernel_rfl) HJ.out (fun w' hw' => ?_) ?_; rotate_left; (· skip; go_simp; rfl); (go_simp))
              refine j_one 10 _ rfl (by kernel_rfl) HJ.out ?_
              go_wp2_with ((with_reducible refine wpList_float (x := ?_) (y := ?_) (X := ?_) (Y := ?_) rfl rfl ?_ ?_ ?_ ?_ ?_ ?_); (· rfl); (rotate_left 4); (· rfl); (· rfl); (· first | assumption | exact Is.refl _); (· first | assumption | exact Is.refl _); intro v n hv hl)
              have HJ := Lib.hid (show Below wr.heap.size wr (wj.drewN n) from below_drewN HJ.out _)
              obtain ⟨w2, hw2⟩ : ∃ x, x = wj.drewN n := ⟨_, rfl⟩
              rw [← hw2] at HJ ⊢
              clear hw2
              obtain ⟨x1, h1⟩ : ∃ x, x = v := ⟨_, rfl⟩
              rw [← h1] at hv hl ⊢
              clear h1
              have L1 := Lib.hid (dF_is (m := m) hv)
              clear hv
              refine ⟨HJ.out, ?_⟩
              refine j_one 11 _ rfl (by kernel_rfl) HJ.out ?_
              go_wp2_with fail
              refine (abs_walk _ _ hl).mono ?_
              rintro e w3 ⟨rfl, rfl⟩
              go_wp2_with fail
              refine ⟨HJ.out, ?_⟩
              have l1 := L1.out
              generalize hb1 : dF p.range q.range m = B1 at l1
              have HB1 := Lib.hid hb1
              clear hb1 L1 hl
              refine j_one 13 _ rfl (by kernel_rfl) HJ.out ?_
              go_wp2_with fail
              refine ⟨HJ.out, ?_⟩
              clear l1
              (refine j_take 14 _ ?_ hs rfl rfl (by kernel_rfl) (by kernel_rfl) HJ.out (fun w' hw' => ?_) ?_; rotate_left; (· skip; go_simp; rfl); (go_simp))
              cases B1 with
              | false =>
                have RB : Hid (R = false) := Lib.hid (by rw [← HB0.out]; unfold nearB; rw [HB1.out]; rfl)
                (refine j_skip 15 _ hs rfl (by kernel_rfl) (by kernel_rfl) HJ.out ?_ ?_; (· go_simp); (go_simp))
                (refine j_skip 16 _ hs rfl (by kernel_rfl) (by kernel_rfl) HJ.out ?_ ?_; (· go_simp); (go_simp))
                (refine j_skip 17 _ hs rfl (by kernel_rfl) (by kernel_rfl) HJ.out ?_ ?_; (· go_simp); (go_simp))
                (refine j_skip 18 _ hs rfl (by kernel_rfl) (by kernel_rfl) HJ.out ?_ ?_; (· go_simp); (go_simp))
                (refine j_skip 19 _ hs rfl (by kernel_rfl) (by kernel_rfl) HJ.out ?_ ?_; (· go_simp); (go_simp))
                (refine j_skip 20 _ hs rfl (by kernel_rfl) (by kernel_rfl) HJ.out ?_ ?_; (· go_simp); (go_simp))
                (refine j_skip 21 _ hs rfl (by kernel_rfl) (by kernel_rfl) HJ.out ?_ ?_; (· go_simp); (go_simp))
                (refine j_skip 22 _ hs rfl (by kernel_rfl) (by kernel_rfl) HJ.out ?_ ?_; (· go_simp); (go_simp))
                (refine j_skip 23 _ hs rfl (by kernel_rfl) (by kernel_rfl) HJ.out ?_ ?_; (· go_simp); (go_simp))
                (refine j_skip 24 _ hs rfl (by kernel_rfl) (by kernel_rfl) HJ.out ?_ ?_; (· go_simp); (go_simp))
                (refine j_skip 25 _ hs rfl (by kernel_rfl) (by kernel_rfl) HJ.out ?_ ?_; (· go_simp); (go_simp))
                (refine j_skip 26 _ hs rfl (by kernel_rfl) (by kernel_rfl) HJ.out ?_ ?_; (· go_simp); (go_simp))
                (refine j_skip 27 _ hs rfl (by kernel_rfl) (by kernel_rfl) HJ.out ?_ ?_; (· go_simp); (go_simp))
                (refine j_skip 28 _ hs rfl (by kernel_rfl) (by kernel_rfl) HJ.out ?_ ?_; (· go_simp); (go_simp))
                (refine j_take 29 _ ?_ hs rfl rfl (by kernel_rfl) (by kernel_rfl) HJ.out (fun w' hw' => ?_) ?_; rotate_left; (· skip; go_simp; rfl); (go_simp))
                refine j_done (by kernel_rfl) ?_
                go_wp2_with fail
                go_meet
                exact ⟨by rw [RB.out], WJ.out.trans (HJ.out.mono WJ.out.size)⟩
              | true =>
                (refine j_take2 15 _ ?_ hs rfl (by kernel_rfl) (by kernel_rfl) HJ.out ?_ (fun w' hw' => ?_) ?_; rotate_left; (· go_simp); (· skip; go_simp; rfl); (go_simp))
                (refine j_take2 16 _ ?_ hs rfl (by kernel_rfl) (by kernel_rfl) HJ.out ?_ (fun w' hw' => ?_) ?_; rotate_left; (· go_simp); (· skip; go_simp; rfl); (go_simp))
                (refine j_take2 17 _ ?_ hs rfl (by kernel_rfl) (by kernel_rfl) HJ.out ?_ (fun w' hw' => ?_) ?_; rotate_left; (· go_simp); (· skip; go_simp; rfl); (go_simp))
                (refine j_take2 18 _ ?_ hs rfl (by kernel_rfl) (by kernel_rfl) HJ.out ?_ (fun w' hw' => ?_) ?_; rotate_left; (· go_simp); (· skip; go_simp; rfl); (go_simp))
                (refine j_take2 19 _ ?_ hs rfl (by kernel_rfl) (by kernel_rfl) HJ.out ?_ (fun w' hw' => ?_) ?_; rotate_left; (· go_simp); (· have d := (hw'.cell (p := ⟨bp, op + i * 5 + 1, none⟩) hb).trans p1; go_simp; rfl); (go_simp))
                (refine j_take2 20 _ ?_ hs rfl (by kernel_rfl) (by kernel_rfl) HJ.out ?_ (fun w' hw' => ?_) ?_; rotate_left; (· go_simp); (· skip; go_simp; rfl); (go_simp))
                (refine j_take2 21 _ ?_ hs rfl (by kernel_rfl) (by kernel_rfl) HJ.out ?_ (fun w' hw' => ?_) ?_; rotate_left; (· go_simp); (· skip; go_simp; rfl); (go_simp))
                (refine j_take2 22 _ ?_ hs rfl (by kernel_rfl) (by kernel_rfl) HJ.out ?_ (fun w' hw' => ?_) ?_; rotate_left; (· go_simp); (· skip; go_simp; rfl); (go_simp))
                (refine j_take2 23 _ ?_ hs rfl (by kernel_rfl) (by kernel_rfl) HJ.out ?_ (fun w' hw' => ?_) ?_; rotate_left; (· go_simp); (· skip; go_simp; rfl); (go_simp))
                (refine j_take2 24 _ ?_ hs rfl (by kernel_rfl) (by kernel_rfl) HJ.out ?_ (fun w' hw' => ?_) ?_; rotate_left; (· go_simp); (· have d := (hw'.cell (p := ⟨bp, op + j * 5 + 1, none⟩) hb).trans q1; go_simp; rfl); (go_simp))
                (refine j_take2 27 _ ?_ hs rfl (by kernel_rfl) (by kernel_rfl) HJ.out ?_ (fun w' hw' => ?_) ?_; rotate_left; (· go_simp); (· skip; go_simp; rfl); (go_simp))
                refine j_one 25 _ rfl (by kernel_rfl) HJ.out ?_
                go_wp2_with ((with_reducible refine wpList_floatg (x := ?_) (y := ?_) (X := ?_) (Y := ?_) rfl rfl ?_ ?_ ?_ ?_ ?_ ?_ ?_); (· rfl); (· rfl); (rotate_left 4); (· rfl); (· rfl); (· first | assumption | exact Is.refl _); (· first | assumption | exact Is.refl _); intro v n hv hl)
                have HJ := Lib.hid (show Below wr.heap.size wr (w2.drewN n) from below_drewN HJ.out _)
                obtain ⟨w4, hw2⟩ : ∃ x, x = w2.drewN n := ⟨_, rfl⟩
                rw [← hw2] at HJ ⊢
                clear hw2
                have L2 := Lib.hid (dF_is (m := s) hv)
                clear hv
                refine ⟨HJ.out, ?_⟩
                refine j_one 26 _ rfl (by kernel_rfl) HJ.out ?_
                go_wp2_with fail
                refine (abs_walk _ _ hl).mono ?_
                rintro e w5 ⟨rfl, rfl⟩
                go_wp2_with fail
                refine ⟨HJ.out, ?_⟩
                have l2 := L2.out
                generalize hb2 : dF p.speed q.speed s = B2 at l2
                have RB : Hid (R = B2) := Lib.hid (by rw [← HB0.out]; unfold nearB; rw [HB1.out, hb2]; rfl)
                clear hb2 L2 hl
                refine j_one 28 _ rfl (by kernel_rfl) HJ.out ?_
                go_wp2_with fail
                refine ⟨HJ.out, ?_⟩
                clear l2
                (refine j_take 29 _ ?_ hs rfl rfl (by kernel_rfl) (by kernel_rfl) HJ.out (fun w' hw' => ?_) ?_; rotate_left; (· skip; go_simp; rfl); (go_simp))
                refine j_done (by kernel_rfl) ?_
                go_wp2_with fail
                go_meet
                exact ⟨by rw [RB.out], WJ.out.trans (HJ.out.mono WJ.out.size)⟩
            case rest =>
              clear SW
              obtain ⟨rfl, hw5⟩ := hcut
              have W5 := Lib.hid hw5
              clear hw5
              have ST := Lib.hid (Ap2.step (l := l) (m := m) (s := s) hjl)
              cases R with
              | false =>
                go_wp2_with fail
                go_roundw
                case rel => exact ⟨j + 1, B, rfl, by go_num, by omega, by rw [ST.out, BJ.out, ← HR.out]; simp, W5.out⟩
                case measure => simp only [intOf]; omega
              | true =>
                go_wp2_with fail
                go_roundw
                case rel => exact ⟨j + 1, false, rfl, by go_num, by omega, by rw [ST.out, ← HR.out]; simp, W5.out⟩
                case measure => simp only [intOf]; omega
          · obtain rfl : j = i := by omega
            go_wp2_with fail
            go_roundw
            case rel => exact ⟨j + 1, B, rfl, by go_num, by omega, by rw [BJ.out]; exact Ap2.row, WJ.out⟩
            case measure => simp only [intOf]; omega
      · obtain rfl : i = n := by omega
        go_wp2_with fail
        refine (merge_walk0 a i cap l (ordL (ltI l) i) m s wr (SP.out.keep WI.out) (fun q hq => (HB.out q hq).imp (fun k => Nat.lt_of_lt_of_le k WI.out.size) id) (ord_of a i cap l (by omega)) (ord_ok l i).1 (ord_ok l i).2.1 (by omega)).mono ?_
        rintro e w1 ⟨v, L, rfl, ow, ms, b1⟩
        have lL : L.length ≤ i := by rw [ms.1]; have := merge_le l m s i (ordL (ltI l) i); rw [(ord_ok l i).1] at this; exact this
        have l0 : 0 < i → 0 < L.length := fun h0 => by
          rw [ms.1]
          obtain ⟨f, hf⟩ : ∃ f, i = f + 1 := ⟨i - 1, by omega⟩
          have := merge_ne l m s f (ordL (ltI l) i) (by rw [(ord_ok l i).1]; exact h0)
          rw [← hf] at this; exact this
        obtain ⟨av, cv, rfl⟩ : ∃ av cv, v = .slice av L.length cv := by
          rcases ow.2 with ⟨rfl, h0⟩ | ⟨g, cp, cur, rfl, _⟩
          · exact ⟨none, 0, by rw [h0]⟩
          · exact ⟨_, _, rfl⟩
        have OW := Lib.hid ow
        have MS := Lib.hid ms
        have W1 := Lib.hid (WI.out.trans (b1.mono WI.out.size))
        clear ow ms b1
        go_wp2_with fail
        refine (order_all a i cap l w1 (SP.out.keep W1.out) (by omega)).mono ?_
        rintro e w2 ⟨g, rfl, hg, hd, hb2⟩
        have OD := Lib.hid hd
        have OW2 := Lib.hid (rs_own OW.out fun k hk => hb2.block k (OW.out.lt k hk).2)
        have W2 := Lib.hid (W1.out.trans (hb2.mono W1.out.size))
        clear hd hb2 OW
        have g1 : (L.length : Int) ≤ (i : Int) := by omega
        go_upto_region 14 with fail
        go_cut [85] (fun v wx => v = .bool false ∧ w2 = wx)
        case first =>
          by_cases z : 0 < i
          · have z1 : (0 : Int) < (i : Int) := by omega
            have z2 : ¬ (L.length : Int) = 0 := by have := l0 z; omega
            have z3 : ((L.length : Int) == 0) = false := by rw [beq_eq_false_iff_ne]; exact z2
            have z4 : ¬ L.length = 0 := by have := l0 z; omega
            go_wp2_with fail
            go_meet
            exact ⟨by rw [decide_eq_false (by omega)], rfl⟩
          · have z1 : ¬ (0 : Int) < (i : Int) := by omega
            go_wp2_with fail
            go_meet
            exact ⟨by rw [decide_eq_false (by omega)], rfl⟩
        case rest =>
          obtain ⟨rfl, rfl⟩ := hcut
          cases B with
          | false =>
            go_wp2_with fail
            refine (wakes_walk _).mono ?_
            rintro e w3 ⟨rfl, b3⟩
            have W3 := Lib.hid (W2.out.trans (b3.mono W2.out.size))
            clear b3
            go_wp2_with fail
            go_ret
            exact ⟨rfl, W3.out⟩
          | true =>
            have AP := Lib.hid (BI.out.1 rfl)
            have LE : Hid (L.length = i) := Lib.hid (by rw [MS.out.1, ap_merge AP.out, List.length_map, (ord_ok l i).1])
            have HX := Lib.hid (fun k x p q hx hp hq => ms_apart (k := k) (x := x) (p := p) (q := q) MS.out AP.out hx hp hq)
            obtain ⟨av2, cv2, ev, sv⟩ := sp_own OW2.out (ms_lt MS.out SP.out.lt)
            obtain ⟨rfl, rfl⟩ : av = av2 ∧ cv = cv2 := by simpa using ev
            have SV := Lib.hid sv
            have SL := Lib.hid (SP.out.keep W2.out)
            have OK := Lib.hid (ord_ok l i)
            clear sv ev MS W1 BI WI SP HB ln OW2
            rw [LE.out] at SV ⊢
            go_wp2_with fail
            go_loopw [12] (fun v12 wr => ∃ k : Nat, v12 = .int .i64 k ∧ k ≤ i ∧ Below w2.heap.size w2 wr) (fun v12 _ => i - (intOf v12).toNat)
            case atStart => exact ⟨0, rfl, by omega, Below.refl _ _⟩
            case round =>
              obtain ⟨k, rfl, hk, hb4⟩ := hrel
              have B4 := Lib.hid hb4
              clear hb4
              by_cases hlt : k < i
              · have k1 : (k : Int) < (i : Int) := by omega
                obtain ⟨x, hx⟩ : ∃ x, (ordL (ltI l) i)[k]? = some x := ⟨_, List.getElem?_eq_getElem (by rw [OK.out.1]; exact hlt)⟩
                have xi : x < i := OK.out.2.1 x (List.mem_of_getElem? hx)
                have x1 : (x : Int) < (i : Int) := by omega
                obtain ⟨bp, op, p, rfl, hb, hp, ⟨p0, p1, p2, p3, p4⟩, ltp⟩ := (SV.out.keep B4.out).at hlt
                obtain ⟨bq, oq, q, rfl, hbq, hq, ⟨q0, q1, q2, q3, q4⟩, ltq⟩ := (SL.out.keep B4.out).at xi
                have ISX := Lib.hid (HX.out k x p q hx hp hq)
                have d0 := (Di.keep OD.out B4.out : Di wr g (ordL (ltI l) i)).cell hx
                have dl := Nat.lt_of_lt_of_le OD.out.lt B4.out.size
                have LTQ := Lib.hid ltq
                clear hx hp hq ltp ltq HX SV SL AP OK OD
                obtain ⟨e0, e1, e2, e3, e4⟩ := ISX.out
                have CS := Lib.hid (fun w => same_walk p q w LTQ.out e0 e1 e2 e3 e4)
                clear e0 e1 e2 e3 e4 ISX LTQ LE W2
                obtain ⟨w8, e8⟩ : ∃ y, y = wr := ⟨_, rfl⟩
                rw [← e8] at B4 hb hbq p0 p1 p2 p3 p4 q0 q1 q2 q3 q4 d0 dl ⊢
                clear e8
                go_upto_region 23 with fail
                go_cut [112] from 94 to 112 (fun v wx => v = .bool false ∧ Below w8.heap.size w8 wx)
                case first =>
                  refine wp_region_J 13 (fun x => Below w8.heap.size w8 x) (by kernel_rfl) rfl (by kernel_rfl) ((Below.refl _ w8).drew) (fun wj hJ hs => ?_)
                  have HJ := Lib.hid hJ
                  clear hJ
                  (refine j_take 0 _ ?_ hs rfl rfl (by kernel_rfl) (by kernel_rfl) HJ.out (fun w' hw' => ?_) ?_; rotate_left; (· skip; go_simp; rfl); (go_simp))
                  (refine j_take 1 _ ?_ hs rfl rfl (by kernel_rfl) (by kernel_rfl) HJ.out (fun w' hw' => ?_) ?_; rotate_left; (· skip; go_simp; rfl); (go_simp))
                  (refine j_take 2 _ ?_ hs rfl rfl (by kernel_rfl) (by kernel_rfl) HJ.out (fun w' hw' => ?_) ?_; rotate_left; (· skip; go_simp; rfl); (go_simp))
                  (refine j_take 3 _ ?_ hs rfl rfl (by kernel_rfl) (by kernel_rfl) HJ.out (fun w' hw' => ?_) ?_; rotate_left; (· obtain ⟨d0, d1, d2, d3, d4⟩ := AtP.keep ⟨p0, p1, p2, p3, p4⟩ hb hw'; go_simp; rfl); (go_simp))
                  (refine j_take 4 _ ?_ hs rfl rfl (by kernel_rfl) (by kernel_rfl) HJ.out (fun w' hw' => ?_) ?_; rotate_left; (· skip; go_simp; rfl); (go_simp))
                  (refine j_take 5 _ ?_ hs rfl rfl (by kernel_rfl) (by kernel_rfl) HJ.out (fun w' hw' => ?_) ?_; rotate_left; (· skip; go_simp; rfl); (go_simp))
                  (refine j_take 6 _ ?_ hs rfl rfl (by kernel_rfl) (by kernel_rfl) HJ.out (fun w' hw' => ?_) ?_; rotate_left; (· skip; go_simp; rfl); (go_simp))
                  (refine j_take 7 _ ?_ hs rfl rfl (by kernel_rfl) (by kernel_rfl) HJ.out (fun w' hw' => ?_) ?_; rotate_left; (· skip; go_simp; rfl); (go_simp))
                  (refine j_take 8 _ ?_ hs rfl rfl (by kernel_rfl) (by kernel_rfl) HJ.out (fun w' hw' => ?_) ?_; rotate_left; (· have d := (hw'.cell (p := ⟨g, k, none⟩) dl).trans d0; go_simp; rfl); (go_simp))
                  (refine j_take 9 _ ?_ hs rfl rfl (by kernel_rfl) (by kernel_rfl) HJ.out (fun w' hw' => ?_) ?_; rotate_left; (· skip; go_simp; rfl); (go_simp))
                  (refine j_take 10 _ ?_ hs rfl rfl (by kernel_rfl) (by kernel_rfl) HJ.out (fun w' hw' => ?_) ?_; rotate_left; (· obtain ⟨d0, d1, d2, d3, d4⟩ := AtP.keep ⟨q0, q1, q2, q3, q4⟩ hbq hw'; go_simp; rfl); (go_simp))
                  refine j_one 11 _ rfl (by kernel_rfl) HJ.out ?_
                  go_wp2_with fail
                  refine (CS.out _).mono ?_
                  rintro e w9 ⟨rfl, b9⟩
                  have HJ := Lib.hid (HJ.out.trans (b9.mono HJ.out.size))
                  clear b9
                  go_wp2_with fail
                  refine ⟨HJ.out, ?_⟩
                  (refine j_take 12 _ ?_ hs rfl rfl (by kernel_rfl) (by kernel_rfl) HJ.out (fun w' hw' => ?_) ?_; rotate_left; (· skip; go_simp; rfl); (go_simp))
                  refine j_done (by kernel_rfl) ?_
                  go_wp2_with fail
                  go_meet
                  exact ⟨rfl, HJ.out⟩
                case rest =>
                  obtain ⟨rfl, bb⟩ := hcut
                  have B5 := Lib.hid (B4.out.trans (bb.mono B4.out.size))
                  clear bb
                  go_wp2_with fail
                  go_roundw
                  case rel => exact ⟨k + 1, by go_num, by omega, B5.out⟩
                  case measure => simp only [intOf]; omega
              · obtain rfl : k = i := by omega
                clear HX SV SL AP OK OD
                go_wp2_with fail
                refine (wakes_walk _).mono ?_
                rintro e w3 ⟨rfl, b3⟩
                have W3 := Lib.hid ((W2.out.trans (B4.out.mono W2.out.size)).trans (b3.mono (Nat.le_trans W2.out.size B4.out.size)))
                clear b3
                go_wp2_with fail
                go_ret
                exact ⟨rfl, W3.out⟩
end Go.Proofs.Ytdngkeefbpffcaa
