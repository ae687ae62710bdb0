import Derived.Test.YtgdkmakmdomdbaaPnO
set_option autoImplicit false
set_option linter.unusedVariables false
namespace Go.Proofs.Ytgdkmakmdomdbaa
open Go.RowKit Lk Pn
def TN : FuncId → Array Value → Value → World → Prop := fun _ _ _ _ => False
theorem undrew0 {B n : Nat} {w w' : World} (h : Below B (w.drewN n) w') : Below B w w' := ⟨h.os, h.tape, h.output, h.size, h.block⟩
theorem rj_drew0 {lb o n : Nat} {ev lg rk nx : Int} {w : World} (h : RJ lb o ev lg rk nx w) : RJ lb o ev lg rk nx { heap := (w.drewN n).heap, tape := (w.drewN n).tape, drawn := (w.drewN n).drawn + 1, os := (w.drewN n).os, output := (w.drewN n).output } :=
  ⟨h.c0, h.c1, h.c2, h.c3, h.lt⟩
theorem nil_or_snoc (l : List Rn) : l = [] ∨ ∃ ws r, l = ws ++ [r] := (List.eq_nil_or_concat l).imp id fun ⟨a, b, h⟩ => ⟨a, b, by rw [h, List.concat_eq_append]⟩
structure RR (S : Nat → Prop) (p lb cap n : Nat) (T now : Int) (l : List Ln) (w wr : World) (k : Nat) (vs : List Value) : Prop where
  pa : PAx cY wr (Sx S w wr) p lb cap vs ⟨relK T l k, now⟩
  fr : Fr S w wr
set_option maxRecDepth 100000 in
set_option maxHeartbeats 4000000 in
theorem rel_walk (p lb cap : Nat) (vs : List Value) (S : Nat → Prop) (st : Pl) (T : Int) (w : World) (h : PAx cY w S p lb cap vs st) (hok : ∀ x ∈ st.l, OkL x) (t0 : 0 ≤ T) (t1 : T ≤ 1152921504606846976) :
    Calls Try.prog 36 #[.pointer (some ⟨p, 0, none⟩), .int .i64 T] w (fun e w' => e = .returned (.tuple #[]) ∧ (∃ vs', PAx cY w' (Sx S w w') p lb cap vs' ⟨rel T st.l, st.now⟩) ∧ Fr S w w') := by
  obtain ⟨I, Z, hi, hz, hsz, hby, hzs⟩ := info5 run_info
  obtain ⟨l, now⟩ := st
  simp only at hok
  obtain ⟨n, hn⟩ : ∃ n, n = l.length := ⟨_, rfl⟩
  have H := Lib.hid h.start
  have HN := Lib.hid hn
  have OK := Lib.hid hok
  have p0 := h.p0
  have cc := h.cap1
  have c63 := h.cap2
  rw [← hn] at p0 cc
  clear h hok hn
  go_enter Try.func36, Try.ntmps36
  go_wp2_with fail
  go_loopw [13] (fun i wr => ∃ k vs, k ≤ n ∧ i = .int .i64 k ∧ RR S p lb cap n T now l w wr k vs) (fun i _ => n - (intOf i).toNat)
  case atStart => exact ⟨0, vs, by omega, rfl, by rw [relK_zero]; exact H.out, Fr.refl _ _⟩
  case round =>
    obtain ⟨k, vs, hk, rfl, R⟩ := hrel
    have HR := Lib.hid R
    have p0 := R.pa.p0
    rw [relK_len, ← HN.out] at p0
    clear R H
    by_cases hlt : k < n
    · have hk64 : (k : Int) < (n : Int) := by omega
      obtain ⟨x, hx⟩ : ∃ x, l[k]? = some x := ⟨_, List.getElem?_eq_getElem (by rw [← HN.out]; exact hlt)⟩
      have ok := OK.out x (List.mem_of_getElem? hx)
      obtain ⟨v, m0⟩ := Md.start HR.out.pa HR.out.fr (relK_at (T := T) hx)
      have M0 := Lib.hid m0
      have HX := Lib.hid hx
      have HO := Lib.hid ok
      obtain ⟨⟨ev, lg, rk⟩, nx, wt, lf⟩ := x
      obtain ⟨a, c, rfl, q1, q2, _⟩ := m0.ln.2.form
      have c0 := m0.ln.1.c0
      have c1 := m0.ln.1.c1
      have c2 := m0.ln.1.c2
      have c3 := m0.ln.1.c3
      have c4 := m0.ln.1.c4
      have c5 := m0.ln.1.c5
      have lt := m0.ln.1.lt
      have ev1 := ok.ev1
      have ev2 := ok.ev2
      have nx0 := ok.nx0
      have nx1 := ok.nx1
      simp only at c0 c1 c2 c3 c4 c5 ev1 ev2 nx0 nx1 q1 q2
      clear hx ok m0
      by_cases hg : T < nx
      · go_wp2_with fail
        go_roundw
        case rel => exact ⟨k + 1, vs, by omega, by go_num, by rw [relK_succ HX.out, relL_no hg, set_same (relK_at HX.out)]; exact HR.out.pa, HR.out.fr⟩
        case measure => simp [intOf]; omega
      · have d0 : 0 ≤ (T - nx) / ev := Int.ediv_nonneg (by omega) (by omega)
        have d1 : (T - nx) / ev ≤ T - nx := Int.ediv_le_self _ (by omega)
        have d2 : (T - nx) / ev * ev ≤ T - nx := Int.ediv_mul_le _ (by omega)
        have d3 : ((T - nx) / ev + 1) * ev = (T - nx) / ev * ev + ev := by rw [Int.add_mul, Int.one_mul]
        have d4 : 0 ≤ ((T - nx) / ev + 1) * ev := Int.mul_nonneg (by omega) (by omega)
        have d5 : ((T - nx) / ev + 1) * ev ≤ 1152922604118474752 := by omega
        have HG : Hid (¬ T < nx) := Lib.hid hg
        clear d2 d3
        rcases nil_or_snoc wt with rfl | ⟨ws, r, rfl⟩
        · have f5 := M0.out.ln.1.fz (k * 6 + 5)
          have c4 : wr.cell? ⟨lb, k * 6 + 4, none⟩ = some (.slice a 0 c) := c4
          go_wp2_with fail
          go_quiet (fail)
          go_wp2_with fail
          go_quiet (fail)
          go_wp2_with fail
          have M0 := Lib.hid (M0.out.setLf lg)
          clear c5 f5
          refine wp_region_J1 20 (RJ lb (k * 6) ev lg rk nx) (by kernel_rfl) rfl (by kernel_rfl) (rj_drew0 M0.out.rj) (fun w1 hb1 hJ hs => ?_)
          have HJ := Lib.hid hJ
          have M1 := Lib.hid (M0.out.below (undrew0 hb1))
          clear hb1 hJ c0 c1 c2 c3 c4
          (refine j_take 0 _ ?_ hs rfl rfl (by kernel_rfl) (by kernel_rfl) HJ.out (fun w' hw' => ?_) ?_; rotate_left; (· have c0 := hw'.c0; have c1 := hw'.c1; have c2 := hw'.c2; have c3 := hw'.c3; have lt := hw'.lt; go_simp; rfl); (go_simp))
          (refine j_take 1 _ ?_ hs rfl rfl (by kernel_rfl) (by kernel_rfl) HJ.out (fun w' hw' => ?_) ?_; rotate_left; (· have c0 := hw'.c0; have c1 := hw'.c1; have c2 := hw'.c2; have c3 := hw'.c3; have lt := hw'.lt; go_simp; rfl); (go_simp))
          (refine j_take 2 _ ?_ hs rfl rfl (by kernel_rfl) (by kernel_rfl) HJ.out (fun w' hw' => ?_) ?_; rotate_left; (· have c0 := hw'.c0; have c1 := hw'.c1; have c2 := hw'.c2; have c3 := hw'.c3; have lt := hw'.lt; go_simp; rfl); (go_simp))
          (refine j_take 3 _ ?_ hs rfl rfl (by kernel_rfl) (by kernel_rfl) HJ.out (fun w' hw' => ?_) ?_; rotate_left; (· have c0 := hw'.c0; have c1 := hw'.c1; have c2 := hw'.c2; have c3 := hw'.c3; have lt := hw'.lt; go_simp; rfl); (go_simp))
          (refine j_take 5 _ ?_ hs rfl rfl (by kernel_rfl) (by kernel_rfl) HJ.out (fun w' hw' => ?_) ?_; rotate_left; (· have c0 := hw'.c0; have c1 := hw'.c1; have c2 := hw'.c2; have c3 := hw'.c3; have lt := hw'.lt; go_simp; rfl); (go_simp))
          (refine j_take 6 _ ?_ hs rfl rfl (by kernel_rfl) (by kernel_rfl) HJ.out (fun w' hw' => ?_) ?_; rotate_left; (· have c0 := hw'.c0; have c1 := hw'.c1; have c2 := hw'.c2; have c3 := hw'.c3; have lt := hw'.lt; go_simp; rfl); (go_simp))
          (refine j_take 7 _ ?_ hs rfl rfl (by kernel_rfl) (by kernel_rfl) HJ.out (fun w' hw' => ?_) ?_; rotate_left; (· have c0 := hw'.c0; have c1 := hw'.c1; have c2 := hw'.c2; have c3 := hw'.c3; have lt := hw'.lt; go_simp; rfl); (go_simp))
          (refine j_take 8 _ ?_ hs rfl rfl (by kernel_rfl) (by kernel_rfl) HJ.out (fun w' hw' => ?_) ?_; rotate_left; (· have c0 := hw'.c0; have c1 := hw'.c1; have c2 := hw'.c2; have c3 := hw'.c3; have lt := hw'.lt; go_simp; rfl); (go_simp))
          (refine j_take 9 _ ?_ hs rfl rfl (by kernel_rfl) (by kernel_rfl) HJ.out (fun w' hw' => ?_) ?_; rotate_left; (· have c0 := hw'.c0; have c1 := hw'.c1; have c2 := hw'.c2; have c3 := hw'.c3; have lt := hw'.lt; go_simp; rfl); (go_simp))
          (refine j_take 10 _ ?_ hs rfl rfl (by kernel_rfl) (by kernel_rfl) HJ.out (fun w' hw' => ?_) ?_; rotate_left; (· have c0 := hw'.c0; have c1 := hw'.c1; have c2 := hw'.c2; have c3 := hw'.c3; have lt := hw'.lt; go_simp; rfl); (go_simp))
          (refine j_take 11 _ ?_ hs rfl rfl (by kernel_rfl) (by kernel_rfl) HJ.out (fun w' hw' => ?_) ?_; rotate_left; (· have c0 := hw'.c0; have c1 := hw'.c1; have c2 := hw'.c2; have c3 := hw'.c3; have lt := hw'.lt; go_simp; rfl); (go_simp))
          (refine j_take 12 _ ?_ hs rfl rfl (by kernel_rfl) (by kernel_rfl) HJ.out (fun w' hw' => ?_) ?_; rotate_left; (· have c0 := hw'.c0; have c1 := hw'.c1; have c2 := hw'.c2; have c3 := hw'.c3; have lt := hw'.lt; go_simp; rfl); (go_simp))
          (refine j_take 13 _ ?_ hs rfl rfl (by kernel_rfl) (by kernel_rfl) HJ.out (fun w' hw' => ?_) ?_; rotate_left; (· have c0 := hw'.c0; have c1 := hw'.c1; have c2 := hw'.c2; have c3 := hw'.c3; have lt := hw'.lt; go_simp; rfl); (go_simp))
          (refine j_take 14 _ ?_ hs rfl rfl (by kernel_rfl) (by kernel_rfl) HJ.out (fun w' hw' => ?_) ?_; rotate_left; (· have c0 := hw'.c0; have c1 := hw'.c1; have c2 := hw'.c2; have c3 := hw'.c3; have lt := hw'.lt; go_simp; rfl); (go_simp))
          have RJ1 := Lib.hid M1.out.rj
          have RJA := Lib.hid (M1.out.rj.alloc (.cells #[.int .i64 ev, .int .i64 lg, .int .i64 rk, .int .i64 nx, .int .i64 ((T - nx) / ev + 1)] 102))
          have WA := Lib.hid (wt_alloc M1.out.ln.2 (.cells #[.int .i64 ev, .int .i64 lg, .int .i64 rk, .int .i64 nx, .int .i64 ((T - nx) / ev + 1)] 102))
          have c4 := M1.out.ln.1.c4
          have lt := M1.out.ln.1.lt
          simp only [List.length_nil] at c4
          refine j_two 4 15 _ _ rfl rfl (by kernel_rfl) HJ.out ?_ ?_
          · go_wp2_with fail
            refine ⟨RJ1.out, ?_⟩
            refine j_one 15 _ rfl (by kernel_rfl) RJ1.out ?_
            clear c4
            go_wp2_with fail
            refine ⟨RJA.out, ?_⟩
            refine j_one 16 _ rfl (by kernel_rfl) RJA.out ?_
            refine wpList_append_wt cY rfl (.tmp 91) (.tmp 102) 66 rfl I Z 40 Try.und66 hi hz hsz hby (by decide) hzs (v := .slice a (0) c) (l := []) rfl (by simpa using WA.out) rfl (r := ⟨⟨ev, lg, rk⟩, nx, (T - nx) / ev + 1⟩) (Deep.blk_alloc_new w1 _) HO.out.wl (one5 _ _ _ _ _) ?_
            intro g2 n2 w2 hw2 gr hp
            have EE := M1.out.app _ hw2 gr hp
            have M3 := Lib.hid EE.1
            have RJ2 := Lib.hid (RJ1.out.of_block EE.2.1 (Nat.le_of_lt EE.2.2))
            have c4 := (World.cell?_of_block (a := ⟨lb, k * 6 + 4, none⟩) EE.2.1).trans M1.out.ln.1.c4
            have f4 := (World.frozen?_of_block (a := ⟨lb, k * 6 + 4, none⟩) EE.2.1).trans (M1.out.ln.1.fz (k * 6 + 4))
            clear EE hw2 gr hp WA
            go_wp2_with fail
            refine ⟨RJ2.out, ?_⟩
            refine j_one 17 _ rfl (by kernel_rfl) RJ2.out ?_
            go_wp2_with fail
            refine ⟨RJ2.out, ?_⟩
            refine j_one 18 _ rfl (by kernel_rfl) RJ2.out ?_
            go_wp2_with fail
            refine ⟨RJ2.out, ?_⟩
            refine j_one 19 _ rfl (by kernel_rfl) RJ2.out ?_
            go_wp2_with fail
            refine ⟨M3.out.rj, j_done (by kernel_rfl) ?_⟩
            clear c4 f4 RJA RJ1
            have c0 := RJ2.out.c0
            have c3 := RJ2.out.c3
            have lt := RJ2.out.lt
            go_wp2_with fail
            refine wp_region_G_tail 14 TN (by kernel_rfl) (by kernel_rfl) ?_
            simp only [List.take, List.drop]
            repeat' (refine wpG_step' (fun K hA hK => ?_); go_simp; first | (refine bothG_value hA (v := ?_) (fun w' hw' => ?_) ?_; rotate_left; (· go_simp; rfl); (refine hK _ _ ?_; clear hK hA K)))
            refine wpG_nil ?_
            intro w4 hb4 hF
            have M4 : Hid (Md cY S w w4 p lb cap now (relK T l k) k _ _) := Lib.hid (by first | exact M3.out.below hb4 | exact M3.out.below (undrew0 hb4))
            have c3 := M4.out.ln.1.c3
            have f3 := M4.out.ln.1.fz (k * 6 + 3)
            have lt := M4.out.ln.1.lt
            have M5 := Lib.hid (M4.out.setNx (nx + ((T - nx) / ev + 1) * ev))
            simp only at c3
            clear hF c0 hb4
            go_wp2_with fail
            go_roundw
            case rel =>
              obtain ⟨vs', Q⟩ := M5.out.pa
              refine ⟨k + 1, vs', by omega, by go_num, ?_, M5.out.fr⟩
              rw [relK_succ HX.out, relL_none (by have := HG.out; simp only; omega) rfl]
              exact Q
            case measure => simp [intOf]; omega
          · go_wp2_with fail
            first | refine ⟨RJA.out, ?_⟩ | refine ⟨rfl, RJA.out, ?_⟩
            refine j_one 4 _ rfl (by kernel_rfl) RJA.out ?_
            go_wp2_with fail
            refine ⟨RJA.out, ?_⟩
            clear c4
            refine j_one 16 _ rfl (by kernel_rfl) RJA.out ?_
            refine wpList_append_wt cY rfl (.tmp 91) (.tmp 102) 66 rfl I Z 40 Try.und66 hi hz hsz hby (by decide) hzs (v := .slice a (0) c) (l := []) rfl (by simpa using WA.out) rfl (r := ⟨⟨ev, lg, rk⟩, nx, (T - nx) / ev + 1⟩) (Deep.blk_alloc_new w1 _) HO.out.wl (one5 _ _ _ _ _) ?_
            intro g2 n2 w2 hw2 gr hp
            have EE := M1.out.app _ hw2 gr hp
            have M3 := Lib.hid EE.1
            have RJ2 := Lib.hid (RJ1.out.of_block EE.2.1 (Nat.le_of_lt EE.2.2))
            have c4 := (World.cell?_of_block (a := ⟨lb, k * 6 + 4, none⟩) EE.2.1).trans M1.out.ln.1.c4
            have f4 := (World.frozen?_of_block (a := ⟨lb, k * 6 + 4, none⟩) EE.2.1).trans (M1.out.ln.1.fz (k * 6 + 4))
            clear EE hw2 gr hp WA
            go_wp2_with fail
            refine ⟨RJ2.out, ?_⟩
            refine j_one 17 _ rfl (by kernel_rfl) RJ2.out ?_
            go_wp2_with fail
            refine ⟨RJ2.out, ?_⟩
            refine j_one 18 _ rfl (by kernel_rfl) RJ2.out ?_
            go_wp2_with fail
            refine ⟨RJ2.out, ?_⟩
            refine j_one 19 _ rfl (by kernel_rfl) RJ2.out ?_
            go_wp2_with fail
            refine ⟨M3.out.rj, j_done (by kernel_rfl) ?_⟩
            clear c4 f4 RJA RJ1
            have c0 := RJ2.out.c0
            have c3 := RJ2.out.c3
            have lt := RJ2.out.lt
            go_wp2_with fail
            refine wp_region_G_tail 14 TN (by kernel_rfl) (by kernel_rfl) ?_
            simp only [List.take, List.drop]
            repeat' (refine wpG_step' (fun K hA hK => ?_); go_simp; first | (refine bothG_value hA (v := ?_) (fun w' hw' => ?_) ?_; rotate_left; (· go_simp; rfl); (refine hK _ _ ?_; clear hK hA K)))
            refine wpG_nil ?_
            intro w4 hb4 hF
            have M4 : Hid (Md cY S w w4 p lb cap now (relK T l k) k _ _) := Lib.hid (by first | exact M3.out.below hb4 | exact M3.out.below (undrew0 hb4))
            have c3 := M4.out.ln.1.c3
            have f3 := M4.out.ln.1.fz (k * 6 + 3)
            have lt := M4.out.ln.1.lt
            have M5 := Lib.hid (M4.out.setNx (nx + ((T - nx) / ev + 1) * ev))
            simp only at c3
            clear hF c0 hb4
            go_wp2_with fail
            go_roundw
            case rel =>
              obtain ⟨vs', Q⟩ := M5.out.pa
              refine ⟨k + 1, vs', by omega, by go_num, ?_, M5.out.fr⟩
              rw [relK_succ HX.out, relL_none (by have := HG.out; simp only; omega) rfl]
              exact Q
            case measure => simp [intOf]; omega
        · have HT : Hid ((ws ++ [r])[ws.length]? = some r) := Lib.hid (by simp)
          obtain ⟨g, off, c', cur, e1, B⟩ := M0.out.ln.2.some (by simp)
          simp only at e1 B
          cases e1
          obtain ⟨⟨rev, rlg, rrk⟩, rfi, rct⟩ := r
          have b0 := B.cell HT.out (q := 0) (by decide)
          have b1 := B.cell HT.out (q := 1) (by decide)
          have b2 := B.cell HT.out (q := 2) (by decide)
          have b4 := B.cell HT.out (q := 4) (by decide)
          have bf := B.frozen (off + (ws.length * 5 + 4))
          have blt := B.lt
          have ro := HO.out.rn ⟨⟨rev, rlg, rrk⟩, rfi, rct⟩ (by simp)
          have rc1 : 1 ≤ rct := ro.2.2.2.2.2.1
          have rc2 : rct ≤ 2305843009213693952 := by
            have h1 := ro.2.2.2.2.2.2
            have h2 := ro.2.2.2.2.1
            have h3 : rct * 1 ≤ rct * rev := Int.mul_le_mul_of_nonneg_left ro.1 (by omega)
            simp only at h1 h2
            omega
          have HB := Lib.hid B
          have ng1 := (M0.out.ne rfl).1
          have ng2 := (M0.out.ne rfl).1.symm
          have c4 : wr.cell? ⟨lb, k * 6 + 4, none⟩ = some (.slice (some ⟨g, off, none⟩) (ws.length + 1) c) := by simpa using c4
          have hl5 : ws.length < 4194304 := by have := HO.out.wl; simp at this; omega
          simp only [cY, List.getElem?_cons_zero, List.getElem?_cons_succ, Nat.add_zero, ← Nat.add_assoc] at b0 b1 b2 b4 bf
          clear ro B
          by_cases he : (⟨rev, rlg, rrk⟩ : Tk) = ⟨ev, lg, rk⟩
          · cases he
            go_wp2_with fail
            go_quiet (fail)
            go_wp2_with fail
            go_quiet (fail)
            go_wp2_with fail
            have M3 := Lib.hid (M0.out.setRun (cur := cur) rfl HB.out HT.out (q := 4) (by decide) (.int .i64 (rct + ((T - nx) / ev + 1))) (r' := ⟨⟨ev, lg, rk⟩, rfi, rct + ((T - nx) / ev + 1)⟩) rfl)
            clear b0 b1 b2 b4 bf c1 c2 c4 c5
            refine wp_region_G_tail 14 TN (by kernel_rfl) (by kernel_rfl) ?_
            simp only [List.take, List.drop]
            repeat' (refine wpG_step' (fun K hA hK => ?_); go_simp; first | (refine bothG_value hA (v := ?_) (fun w' hw' => ?_) ?_; rotate_left; (· go_simp; rfl); (refine hK _ _ ?_; clear hK hA K)))
            refine wpG_nil ?_
            intro w4 hb4 hF
            have M4 : Hid (Md cY S w w4 p lb cap now (relK T l k) k _ _) := Lib.hid (by first | exact M3.out.below hb4 | exact M3.out.below (undrew0 hb4))
            have c3 := M4.out.ln.1.c3
            have f3 := M4.out.ln.1.fz (k * 6 + 3)
            have lt := M4.out.ln.1.lt
            have M5 := Lib.hid (M4.out.setNx (nx + ((T - nx) / ev + 1) * ev))
            simp only at c3
            clear hF c0 hb4
            go_wp2_with fail
            go_roundw
            case rel =>
              obtain ⟨vs', Q⟩ := M5.out.pa
              refine ⟨k + 1, vs', by omega, by go_num, ?_, M5.out.fr⟩
              rw [relK_succ HX.out, relL_same (by have := HG.out; simp only; omega) rfl rfl]
              have e : (ws ++ [(⟨⟨ev, lg, rk⟩, rfi, rct⟩ : Rn)]).set ws.length ⟨⟨ev, lg, rk⟩, rfi, rct + ((T - nx) / ev + 1)⟩ = ws ++ [⟨⟨ev, lg, rk⟩, rfi, rct + ((T - nx) / ev + 1)⟩] := by simp
              simp only [e] at Q
              exact Q
            case measure => simp [intOf]; omega
          · have HE := Lib.hid he
            have hq := run_tk_ne he
            clear he
            go_wp2_with fail
            go_quiet (fail)
            go_wp2_with fail
            go_quiet (fail)
            go_wp2_with fail
            clear hq b0 b1 b2 b4 bf HB ng1 ng2
            refine wp_region_J1 20 (RJ lb (k * 6) ev lg rk nx) (by kernel_rfl) rfl (by kernel_rfl) (rj_drew0 M0.out.rj) (fun w1 hb1 hJ hs => ?_)
            have HJ := Lib.hid hJ
            have M1 := Lib.hid (M0.out.below (undrew0 hb1))
            clear hb1 hJ c0 c1 c2 c3 c4
            (refine j_take 0 _ ?_ hs rfl rfl (by kernel_rfl) (by kernel_rfl) HJ.out (fun w' hw' => ?_) ?_; rotate_left; (· have c0 := hw'.c0; have c1 := hw'.c1; have c2 := hw'.c2; have c3 := hw'.c3; have lt := hw'.lt; go_simp; rfl); (go_simp))
            (refine j_take 1 _ ?_ hs rfl rfl (by kernel_rfl) (by kernel_rfl) HJ.out (fun w' hw' => ?_) ?_; rotate_left; (· have c0 := hw'.c0; have c1 := hw'.c1; have c2 := hw'.c2; have c3 := hw'.c3; have lt := hw'.lt; go_simp; rfl); (go_simp))
            (refine j_take 2 _ ?_ hs rfl rfl (by kernel_rfl) (by kernel_rfl) HJ.out (fun w' hw' => ?_) ?_; rotate_left; (· have c0 := hw'.c0; have c1 := hw'.c1; have c2 := hw'.c2; have c3 := hw'.c3; have lt := hw'.lt; go_simp; rfl); (go_simp))
            (refine j_take 3 _ ?_ hs rfl rfl (by kernel_rfl) (by kernel_rfl) HJ.out (fun w' hw' => ?_) ?_; rotate_left; (· have c0 := hw'.c0; have c1 := hw'.c1; have c2 := hw'.c2; have c3 := hw'.c3; have lt := hw'.lt; go_simp; rfl); (go_simp))
            (refine j_take 5 _ ?_ hs rfl rfl (by kernel_rfl) (by kernel_rfl) HJ.out (fun w' hw' => ?_) ?_; rotate_left; (· have c0 := hw'.c0; have c1 := hw'.c1; have c2 := hw'.c2; have c3 := hw'.c3; have lt := hw'.lt; go_simp; rfl); (go_simp))
            (refine j_take 6 _ ?_ hs rfl rfl (by kernel_rfl) (by kernel_rfl) HJ.out (fun w' hw' => ?_) ?_; rotate_left; (· have c0 := hw'.c0; have c1 := hw'.c1; have c2 := hw'.c2; have c3 := hw'.c3; have lt := hw'.lt; go_simp; rfl); (go_simp))
            (refine j_take 7 _ ?_ hs rfl rfl (by kernel_rfl) (by kernel_rfl) HJ.out (fun w' hw' => ?_) ?_; rotate_left; (· have c0 := hw'.c0; have c1 := hw'.c1; have c2 := hw'.c2; have c3 := hw'.c3; have lt := hw'.lt; go_simp; rfl); (go_simp))
            (refine j_take 8 _ ?_ hs rfl rfl (by kernel_rfl) (by kernel_rfl) HJ.out (fun w' hw' => ?_) ?_; rotate_left; (· have c0 := hw'.c0; have c1 := hw'.c1; have c2 := hw'.c2; have c3 := hw'.c3; have lt := hw'.lt; go_simp; rfl); (go_simp))
            (refine j_take 9 _ ?_ hs rfl rfl (by kernel_rfl) (by kernel_rfl) HJ.out (fun w' hw' => ?_) ?_; rotate_left; (· have c0 := hw'.c0; have c1 := hw'.c1; have c2 := hw'.c2; have c3 := hw'.c3; have lt := hw'.lt; go_simp; rfl); (go_simp))
            (refine j_take 10 _ ?_ hs rfl rfl (by kernel_rfl) (by kernel_rfl) HJ.out (fun w' hw' => ?_) ?_; rotate_left; (· have c0 := hw'.c0; have c1 := hw'.c1; have c2 := hw'.c2; have c3 := hw'.c3; have lt := hw'.lt; go_simp; rfl); (go_simp))
            (refine j_take 11 _ ?_ hs rfl rfl (by kernel_rfl) (by kernel_rfl) HJ.out (fun w' hw' => ?_) ?_; rotate_left; (· have c0 := hw'.c0; have c1 := hw'.c1; have c2 := hw'.c2; have c3 := hw'.c3; have lt := hw'.lt; go_simp; rfl); (go_simp))
            (refine j_take 12 _ ?_ hs rfl rfl (by kernel_rfl) (by kernel_rfl) HJ.out (fun w' hw' => ?_) ?_; rotate_left; (· have c0 := hw'.c0; have c1 := hw'.c1; have c2 := hw'.c2; have c3 := hw'.c3; have lt := hw'.lt; go_simp; rfl); (go_simp))
            (refine j_take 13 _ ?_ hs rfl rfl (by kernel_rfl) (by kernel_rfl) HJ.out (fun w' hw' => ?_) ?_; rotate_left; (· have c0 := hw'.c0; have c1 := hw'.c1; have c2 := hw'.c2; have c3 := hw'.c3; have lt := hw'.lt; go_simp; rfl); (go_simp))
            (refine j_take 14 _ ?_ hs rfl rfl (by kernel_rfl) (by kernel_rfl) HJ.out (fun w' hw' => ?_) ?_; rotate_left; (· have c0 := hw'.c0; have c1 := hw'.c1; have c2 := hw'.c2; have c3 := hw'.c3; have lt := hw'.lt; go_simp; rfl); (go_simp))
            have RJ1 := Lib.hid M1.out.rj
            have RJA := Lib.hid (M1.out.rj.alloc (.cells #[.int .i64 ev, .int .i64 lg, .int .i64 rk, .int .i64 nx, .int .i64 ((T - nx) / ev + 1)] 102))
            have WA := Lib.hid (wt_alloc M1.out.ln.2 (.cells #[.int .i64 ev, .int .i64 lg, .int .i64 rk, .int .i64 nx, .int .i64 ((T - nx) / ev + 1)] 102))
            have c4 := M1.out.ln.1.c4
            have lt := M1.out.ln.1.lt
            simp only [List.length_append, List.length_cons, List.length_nil, Nat.zero_add] at c4
            refine j_two 4 15 _ _ rfl rfl (by kernel_rfl) HJ.out ?_ ?_
            · go_wp2_with fail
              refine ⟨RJ1.out, ?_⟩
              refine j_one 15 _ rfl (by kernel_rfl) RJ1.out ?_
              clear c4
              go_wp2_with fail
              refine ⟨RJA.out, ?_⟩
              refine j_one 16 _ rfl (by kernel_rfl) RJA.out ?_
              refine wpList_append_wt cY rfl (.tmp 91) (.tmp 102) 66 rfl I Z 40 Try.und66 hi hz hsz hby (by decide) hzs (v := .slice (some ⟨g, off, none⟩) (ws.length + 1) c) (l := ws ++ [⟨⟨rev, rlg, rrk⟩, rfi, rct⟩]) rfl (by simpa using WA.out) rfl (r := ⟨⟨ev, lg, rk⟩, nx, (T - nx) / ev + 1⟩) (Deep.blk_alloc_new w1 _) HO.out.wl (one5 _ _ _ _ _) ?_
              intro g2 n2 w2 hw2 gr hp
              have EE := M1.out.app _ hw2 gr hp
              rw [show (ws ++ [(⟨⟨rev, rlg, rrk⟩, rfi, rct⟩ : Rn)]).length + 1 = ws.length + 1 + 1 by simp] at EE
              have M3 := Lib.hid EE.1
              have RJ2 := Lib.hid (RJ1.out.of_block EE.2.1 (Nat.le_of_lt EE.2.2))
              have c4 := (World.cell?_of_block (a := ⟨lb, k * 6 + 4, none⟩) EE.2.1).trans M1.out.ln.1.c4
              have f4 := (World.frozen?_of_block (a := ⟨lb, k * 6 + 4, none⟩) EE.2.1).trans (M1.out.ln.1.fz (k * 6 + 4))
              clear EE hw2 gr hp WA
              go_wp2_with fail
              refine ⟨RJ2.out, ?_⟩
              refine j_one 17 _ rfl (by kernel_rfl) RJ2.out ?_
              go_wp2_with fail
              refine ⟨RJ2.out, ?_⟩
              refine j_one 18 _ rfl (by kernel_rfl) RJ2.out ?_
              go_wp2_with fail
              refine ⟨RJ2.out, ?_⟩
              refine j_one 19 _ rfl (by kernel_rfl) RJ2.out ?_
              go_wp2_with fail
              refine ⟨M3.out.rj, j_done (by kernel_rfl) ?_⟩
              clear c4 f4 RJA RJ1
              have c0 := RJ2.out.c0
              have c3 := RJ2.out.c3
              have lt := RJ2.out.lt
              go_wp2_with fail
              refine wp_region_G_tail 14 TN (by kernel_rfl) (by kernel_rfl) ?_
              simp only [List.take, List.drop]
              repeat' (refine wpG_step' (fun K hA hK => ?_); go_simp; first | (refine bothG_value hA (v := ?_) (fun w' hw' => ?_) ?_; rotate_left; (· go_simp; rfl); (refine hK _ _ ?_; clear hK hA K)))
              refine wpG_nil ?_
              intro w4 hb4 hF
              have M4 : Hid (Md cY S w w4 p lb cap now (relK T l k) k _ _) := Lib.hid (by first | exact M3.out.below hb4 | exact M3.out.below (undrew0 hb4))
              have c3 := M4.out.ln.1.c3
              have f3 := M4.out.ln.1.fz (k * 6 + 3)
              have lt := M4.out.ln.1.lt
              have M5 := Lib.hid (M4.out.setNx (nx + ((T - nx) / ev + 1) * ev))
              simp only at c3
              clear hF c0 hb4
              go_wp2_with fail
              go_roundw
              case rel =>
                obtain ⟨vs', Q⟩ := M5.out.pa
                refine ⟨k + 1, vs', by omega, by go_num, ?_, M5.out.fr⟩
                rw [relK_succ HX.out, relL_new (by have := HG.out; simp only; omega) rfl HE.out]
                exact Q
              case measure => simp [intOf]; omega
            · go_wp2_with fail
              first | refine ⟨RJA.out, ?_⟩ | refine ⟨rfl, RJA.out, ?_⟩
              refine j_one 4 _ rfl (by kernel_rfl) RJA.out ?_
              go_wp2_with fail
              refine ⟨RJA.out, ?_⟩
              clear c4
              refine j_one 16 _ rfl (by kernel_rfl) RJA.out ?_
              refine wpList_append_wt cY rfl (.tmp 91) (.tmp 102) 66 rfl I Z 40 Try.und66 hi hz hsz hby (by decide) hzs (v := .slice (some ⟨g, off, none⟩) (ws.length + 1) c) (l := ws ++ [⟨⟨rev, rlg, rrk⟩, rfi, rct⟩]) rfl (by simpa using WA.out) rfl (r := ⟨⟨ev, lg, rk⟩, nx, (T - nx) / ev + 1⟩) (Deep.blk_alloc_new w1 _) HO.out.wl (one5 _ _ _ _ _) ?_
              intro g2 n2 w2 hw2 gr hp
              have EE := M1.out.app _ hw2 gr hp
              rw [show (ws ++ [(⟨⟨rev, rlg, rrk⟩, rfi, rct⟩ : Rn)]).length + 1 = ws.length + 1 + 1 by simp] at EE
              have M3 := Lib.hid EE.1
              have RJ2 := Lib.hid (RJ1.out.of_block EE.2.1 (Nat.le_of_lt EE.2.2))
              have c4 := (World.cell?_of_block (a := ⟨lb, k * 6 + 4, none⟩) EE.2.1).trans M1.out.ln.1.c4
              have f4 := (World.frozen?_of_block (a := ⟨lb, k * 6 + 4, none⟩) EE.2.1).trans (M1.out.ln.1.fz (k * 6 + 4))
              clear EE hw2 gr hp WA
              go_wp2_with fail
              refine ⟨RJ2.out, ?_⟩
              refine j_one 17 _ rfl (by kernel_rfl) RJ2.out ?_
              go_wp2_with fail
              refine ⟨RJ2.out, ?_⟩
              refine j_one 18 _ rfl (by kernel_rfl) RJ2.out ?_
              go_wp2_with fail
              refine ⟨RJ2.out, ?_⟩
              refine j_one 19 _ rfl (by kernel_rfl) RJ2.out ?_
              go_wp2_with fail
              refine ⟨M3.out.rj, j_done (by kernel_rfl) ?_⟩
              clear c4 f4 RJA RJ1
              have c0 := RJ2.out.c0
              have c3 := RJ2.out.c3
              have lt := RJ2.out.lt
              go_wp2_with fail
              refine wp_region_G_tail 14 TN (by kernel_rfl) (by kernel_rfl) ?_
              simp only [List.take, List.drop]
              repeat' (refine wpG_step' (fun K hA hK => ?_); go_simp; first | (refine bothG_value hA (v := ?_) (fun w' hw' => ?_) ?_; rotate_left; (· go_simp; rfl); (refine hK _ _ ?_; clear hK hA K)))
              refine wpG_nil ?_
              intro w4 hb4 hF
              have M4 : Hid (Md cY S w w4 p lb cap now (relK T l k) k _ _) := Lib.hid (by first | exact M3.out.below hb4 | exact M3.out.below (undrew0 hb4))
              have c3 := M4.out.ln.1.c3
              have f3 := M4.out.ln.1.fz (k * 6 + 3)
              have lt := M4.out.ln.1.lt
              have M5 := Lib.hid (M4.out.setNx (nx + ((T - nx) / ev + 1) * ev))
              simp only at c3
              clear hF c0 hb4
              go_wp2_with fail
              go_roundw
              case rel =>
                obtain ⟨vs', Q⟩ := M5.out.pa
                refine ⟨k + 1, vs', by omega, by go_num, ?_, M5.out.fr⟩
                rw [relK_succ HX.out, relL_new (by have := HG.out; simp only; omega) rfl HE.out]
                exact Q
              case measure => simp [intOf]; omega
    · obtain rfl : k = n := by omega
      go_wp2_with fail
      go_end0
      exact ⟨rfl, ⟨vs, by have := HR.out.pa; rw [HN.out, relK_all] at this; exact this⟩, HR.out.fr⟩
end Go.Proofs.Ytgdkmakmdomdbaa
