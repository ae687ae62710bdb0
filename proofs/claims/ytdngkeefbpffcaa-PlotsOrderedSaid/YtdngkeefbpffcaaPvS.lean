import Derived.Test.YtdngkeefbpffcaaPvC
import Derived.Test.YtdngkeefbpffcaaPsO
import Derived.Test.YtdngkeefbpffcaaPlW
set_option autoImplicit false
set_option linter.unusedVariables false
namespace Go.Proofs.Ytdngkeefbpffcaa
open Go.RowKit Lk Pl
theorem nord {a b : Nat} (h : cgt a b = false) : (FloatKind.f64.format.order a b == some Ordering.gt) = false := h
theorem getPt' {l : List Pt} {i : Nat} {p : Pt} (hp : l[i]? = some p) : l.getD i pt0 = p := by rw [List.getD_eq_getElem?_getD, hp]; rfl
set_option maxRecDepth 100000 in
set_option maxHeartbeats 8000000 in
theorem ordered_law (a : Option Addr) (n cap : Nat) (l : List Pt) (by0 : Int) (W : World) (h : Sp W a n cap l) :
    Calls Try.prog 7 #[.slice a n cap, .int .i64 by0] W (fun e w' => e = .returned (.bool true) ∧ Below W.heap.size W w') := by
  have SP := Lib.hid h
  clear h
  by_cases big : 200 < n
  · have b2 : (200 : Int) < (n : Int) := by omega
    go_enter Try.func7, Try.ntmps7
    go_wp2_with fail
    refine (wakes_walk _).mono ?_
    rintro e w1 ⟨rfl, b1⟩
    have B1 := Lib.hid b1
    clear b1
    go_wp2_with fail
    go_ret
    exact ⟨rfl, B1.out⟩
  · have b2 : ¬ (200 : Int) < (n : Int) := by omega
    have n1 : n ≤ 200 := by omega
    obtain ⟨I, hi, hzz⟩ := Option.map_eq_some_iff.1 int_info3
    simp only [Prod.mk.injEq] at hzz
    obtain ⟨z, hz, hzc⟩ := Option.map_eq_some_iff.1 hzz.1
    have hmk : ∀ w : World, (Instr.makeSlice 48 (.int .i64 (n : Int)) (.int .i64 (n : Int))).run Try.prog w = .ok (.slice (some ⟨w.heap.size, 0, none⟩) n n) (w.alloc (.cells (ints (List.replicate n 0)).toArray 3)) := fun w => by
      have := run_make (P := Try.prog) w 48 3 I z Try.und48 hi hz .i64 .i64 n n (by omega) (Int.le_refl _) (by rw [hzz.2.2]; omega) (by omega)
      rw [hzc, hzz.2.1] at this
      rw [← made_ints]
      simpa using this
    clear big hzz hzc hz hi
    generalize hmz : (ints (List.replicate n 0)).toArray = mz at hmk
    have HMZ := Lib.hid hmz
    clear hmz
    go_enter Try.func7, Try.ntmps7
    go_wp2_with fail
    refine (order_all a n cap l W SP.out (by omega)).mono ?_
    rintro e w1 ⟨g, rfl, hg, hd, hb1⟩
    have OD := Lib.hid hd
    have B1 := Lib.hid hb1
    have G1 := Lib.hid hg
    clear hd hb1 hg
    go_upto_region 5 with fail
    obtain ⟨hh, hhe⟩ : ∃ hh, hh = w1.heap.size := ⟨_, rfl⟩
    refine wp_forget (fun wx => Od W wx (hh + 1) g hh (ordL (ltI l) n) (hadL (ordL (ltI l) n) 0 n) (.slice none 0 0) 0 ((sortedL l n).take 0)) ⟨?_, ?_, ?_, World.ownsRow_nil _ _ _ _, G1.out, ?_, ?_, ?_⟩ ?_
    · exact B1.out.trans ((al_below w1 _).mono B1.out.size)
    · exact Di.keep OD.out (al_below w1 _)
    · unfold Di; rw [had_zero, HMZ.out, hhe]; exact Deep.blk_alloc_new _ _
    · have := OD.out.lt; omega
    · omega
    · simp; omega
    intro w2 od2
    have O2 := Lib.hid od2
    rw [← hhe]
    have HE := Lib.hid hhe
    clear od2 hhe hmk HMZ B1 G1 OD
    obtain ⟨I, Z, ti, tz, ts1, ty, tk⟩ := rs_info pt_info
    go_wp2_with fail
    go_loopw [7, 8] (fun v7 v8 wr => ∃ (k : Nat), v8 = .int .i64 k ∧ k ≤ n ∧ Od W wr (hh + 1) g hh (ordL (ltI l) n) (hadL (ordL (ltI l) n) k n) v7 k ((sortedL l n).take k)) (fun _ v8 _ => n - (intOf v8).toNat)
    case atStart => exact ⟨0, rfl, by omega, O2.out⟩
    case round =>
      clear O2
      obtain ⟨k, rfl, hk, hod⟩ := hrel
      have OK := Lib.hid hod
      clear hod
      by_cases hlt : k < n
      · have k1 : (k : Int) < (n : Int) := by omega
        obtain ⟨x, hx, xn⟩ := ord_at l hlt
        have hx0 := had_at hx xn hlt
        have x1 : (x : Int) < (n : Int) := by omega
        have x2 : ¬ (n : Int) ≤ (x : Int) := by omega
        have x3 : ¬ (x : Int) < 0 := by omega
        have HX := Lib.hid hx
        have c0 := OK.out.o.cell hx
        have c1 := OK.out.d.cell hx0
        have z0 := OK.out.o.lt
        have z1 := OK.out.d.lt
        have f1 := OK.out.d.frozen x
        clear hx hx0
        go_upto_region 12 with fail
        have O5 := Lib.hid (had_set HX.out ▸ OK.out.put x 1)
        obtain ⟨w5, hw5⟩ : ∃ y, y = wr.setCell ⟨hh, x, none⟩ (.int .i64 ((1 : Nat) : Int)) := ⟨_, rfl⟩
        rw [← hw5] at O5
        rw [show (1 : Int) = ((1 : Nat) : Int) from rfl, ← hw5]
        clear hw5 c0 c1 z0 z1 f1 OK
        have c0 := O5.out.o.cell HX.out
        have z0 := O5.out.o.lt
        have zC := O5.out.z
        obtain ⟨bp, op, p, rfl, hb, hp, ⟨p0, p1, p2, p3, p4⟩, ltp⟩ := (SP.out.keep O5.out.b).at xn
        have SN := Lib.hid (sorted_snoc HX.out hp)
        have SG := Lib.hid (sorted_get HX.out hp)
        clear hp ltp
        obtain ⟨av, cv, rfl, v1, v2⟩ := rs_form O5.out.r
        go_wp2_with (refine wpList_append_own_at _ rfl (.tmp 60) (.tmp 68) 47 rfl (hh + 1) 28 I Z 5 40 Try.undP ti tz ts1 ty tk (by decide) (.slice av k cv) k (plv ((sortedL l n).take k)) rfl (O5.out.r.alloc _) ⟨w5.heap.size, 0, none⟩ 1 1 (ptv p) rfl rfl (mpt_cells (q := p) (Deep.blk_alloc_new w5 _)) (mpt_one _) (by simp only [maxLen]; omega) (by omega) (by simp; omega) ?_; intro v9 w9 ow gr _ _; have O9 := Lib.hid (SN.out ▸ O5.out.app ow gr); clear ow gr c0 z0 p0 p1 p2 p3 p4 hb)
        clear O5 SN
        obtain ⟨w8, e8⟩ : ∃ y, y = w9 := ⟨_, rfl⟩
        rw [← e8] at O9 ⊢
        clear e8
        obtain ⟨av9, cv9, rfl, q9, q8⟩ := rs_form O9.out.r
        have kl : k < ((sortedL l n).take (k + 1)).length := by rw [List.length_take, sorted_len]; omega
        have pf : ((sortedL l n).take (k + 1))[k]? = some p := by rw [List.getElem?_take, if_pos (by omega)]; exact SG.out
        obtain ⟨gs9, hgs⟩ : ∃ gs9, av9 = some ⟨gs9, 0, none⟩ ∧ gs9 < w8.heap.size := by
          rcases O9.out.r.2 with ⟨q, h0⟩ | ⟨g9, cp, cur, q, _, hb9, _⟩
          · omega
          · simp only [Value.slice.injEq] at q; exact ⟨g9, q.1, (Array.getElem?_eq_some_iff.1 hb9).1⟩
        obtain ⟨rfl, zs⟩ := hgs
        have get : ∀ j q, ((sortedL l n).take (k + 1))[j]? = some q → w8.cell? ⟨gs9, j * 5 + 2, none⟩ = some (.float .f64 q.power) := fun j q hj => by
          have := O9.out.r.cells (g := gs9) rfl (j * 5 + 2) (.float .f64 q.power) (plv_get hj rfl)
          simpa [Addr.add_lit, Nat.add_assoc] using this
        have s2 := get k p pf
        obtain ⟨bs, hbs⟩ : ∃ bs, bs = gs9 := ⟨_, rfl⟩
        rw [← hbs] at s2 zs O9 ⊢
        have FA : Hid (∀ m, k = m + 1 → ∃ y0, w8.cell? ⟨bs, m * 5 + 2, none⟩ = some (.float .f64 y0) ∧ cgt p.power y0 = false ∧ (Nan y0 → Nan p.power)) := Lib.hid (fun m hm => by
          subst hm
          have e1 : (sortedL l n)[m]? = some ((sortedL l n).getD m pt0) := by
            rw [List.getD_eq_getElem?_getD, List.getElem?_eq_getElem (by rw [sorted_len]; omega)]; rfl
          have e2 : (sortedL l n).getD (m + 1) pt0 = p := by rw [List.getD_eq_getElem?_getD, SG.out]; rfl
          have := get m _ (by rw [List.getElem?_take, if_pos (by omega)]; exact e1)
          have q := sorted_pw SP.out.lt (n := n) (k := m) hlt
          rw [e2] at q
          exact ⟨_, by rw [hbs]; exact this, q.1, q.2⟩)
        have k2 : (k : Int) < ((k + 1 : Nat) : Int) := by omega
        clear get pf kl SG hbs HX
        go_cut [117] from 70 to 117 (fun v wx => v = .bool false ∧ Below w8.heap.size w8 wx)
        case first =>
          rcases Nat.eq_zero_or_pos k with q0 | q0
          · subst q0
            clear FA
            have q0i : ¬ (0 : Int) < ((0 : Nat) : Int) := by omega
            refine wp_region_J 48 (fun x => Below w8.heap.size w8 x) (by kernel_rfl) rfl (by kernel_rfl) ((Below.refl _ w8).drew) (fun wj hJ hs => ?_)
            have HJ := Lib.hid hJ
            clear hJ
            (refine j_take 0 _ ?_ hs rfl rfl (by kernel_rfl) (by kernel_rfl) HJ.out (fun w' hw' => ?_) ?_; rotate_left; (· skip; go_simp; rfl); (go_simp))
            (refine j_take 1 _ ?_ hs rfl rfl (by kernel_rfl) (by kernel_rfl) HJ.out (fun w' hw' => ?_) ?_; rotate_left; (· skip; go_simp; rfl); (go_simp))
            (refine j_take 2 _ ?_ hs rfl rfl (by kernel_rfl) (by kernel_rfl) HJ.out (fun w' hw' => ?_) ?_; rotate_left; (· skip; go_simp; rfl); (go_simp))
            (refine j_skip 3 _ hs rfl (by kernel_rfl) (by kernel_rfl) HJ.out ?_ ?_; (· go_simp); (go_simp))
            (refine j_skip 4 _ hs rfl (by kernel_rfl) (by kernel_rfl) HJ.out ?_ ?_; (· go_simp); (go_simp))
            (refine j_skip 5 _ hs rfl (by kernel_rfl) (by kernel_rfl) HJ.out ?_ ?_; (· go_simp); (go_simp))
            (refine j_skip 6 _ hs rfl (by kernel_rfl) (by kernel_rfl) HJ.out ?_ ?_; (· go_simp); (go_simp))
            (refine j_skip 7 _ hs rfl (by kernel_rfl) (by kernel_rfl) HJ.out ?_ ?_; (· go_simp); (go_simp))
            (refine j_skip 8 _ hs rfl (by kernel_rfl) (by kernel_rfl) HJ.out ?_ ?_; (· go_simp); (go_simp))
            (refine j_skip 9 _ hs rfl (by kernel_rfl) (by kernel_rfl) HJ.out ?_ ?_; (· go_simp); (go_simp))
            (refine j_skip 10 _ hs rfl (by kernel_rfl) (by kernel_rfl) HJ.out ?_ ?_; (· go_simp); (go_simp))
            (refine j_skip 11 _ hs rfl (by kernel_rfl) (by kernel_rfl) HJ.out ?_ ?_; (· go_simp); (go_simp))
            (refine j_skip 12 _ hs rfl (by kernel_rfl) (by kernel_rfl) HJ.out ?_ ?_; (· go_simp); (go_simp))
            (refine j_skip 13 _ hs rfl (by kernel_rfl) (by kernel_rfl) HJ.out ?_ ?_; (· go_simp); (go_simp))
            (refine j_skip 14 _ hs rfl (by kernel_rfl) (by kernel_rfl) HJ.out ?_ ?_; (· go_simp); (go_simp))
            (refine j_take 15 _ ?_ hs rfl rfl (by kernel_rfl) (by kernel_rfl) HJ.out (fun w' hw' => ?_) ?_; rotate_left; (· skip; go_simp; rfl); (go_simp))
            (refine j_take 16 _ ?_ hs rfl rfl (by kernel_rfl) (by kernel_rfl) HJ.out (fun w' hw' => ?_) ?_; rotate_left; (· skip; go_simp; rfl); (go_simp))
            (refine j_take2 17 _ ?_ hs rfl (by kernel_rfl) (by kernel_rfl) HJ.out ?_ (fun w' hw' => ?_) ?_; rotate_left; (· go_simp); (· skip; go_simp; rfl); (go_simp))
            (refine j_take2 18 _ ?_ hs rfl (by kernel_rfl) (by kernel_rfl) HJ.out ?_ (fun w' hw' => ?_) ?_; rotate_left; (· go_simp); (· skip; go_simp; rfl); (go_simp))
            (refine j_take2 19 _ ?_ hs rfl (by kernel_rfl) (by kernel_rfl) HJ.out ?_ (fun w' hw' => ?_) ?_; rotate_left; (· go_simp); (· skip; go_simp; rfl); (go_simp))
            (refine j_skip 20 _ hs rfl (by kernel_rfl) (by kernel_rfl) HJ.out ?_ ?_; (· go_simp); (go_simp))
            (refine j_skip 21 _ hs rfl (by kernel_rfl) (by kernel_rfl) HJ.out ?_ ?_; (· go_simp); (go_simp))
            (refine j_skip 22 _ hs rfl (by kernel_rfl) (by kernel_rfl) HJ.out ?_ ?_; (· go_simp); (go_simp))
            (refine j_skip 23 _ hs rfl (by kernel_rfl) (by kernel_rfl) HJ.out ?_ ?_; (· go_simp); (go_simp))
            (refine j_skip 24 _ hs rfl (by kernel_rfl) (by kernel_rfl) HJ.out ?_ ?_; (· go_simp); (go_simp))
            (refine j_skip 25 _ hs rfl (by kernel_rfl) (by kernel_rfl) HJ.out ?_ ?_; (· go_simp); (go_simp))
            (refine j_skip 26 _ hs rfl (by kernel_rfl) (by kernel_rfl) HJ.out ?_ ?_; (· go_simp); (go_simp))
            (refine j_skip 27 _ hs rfl (by kernel_rfl) (by kernel_rfl) HJ.out ?_ ?_; (· go_simp); (go_simp))
            (refine j_skip 28 _ hs rfl (by kernel_rfl) (by kernel_rfl) HJ.out ?_ ?_; (· go_simp); (go_simp))
            (refine j_skip 29 _ hs rfl (by kernel_rfl) (by kernel_rfl) HJ.out ?_ ?_; (· go_simp); (go_simp))
            (refine j_skip 30 _ hs rfl (by kernel_rfl) (by kernel_rfl) HJ.out ?_ ?_; (· go_simp); (go_simp))
            (refine j_skip 31 _ hs rfl (by kernel_rfl) (by kernel_rfl) HJ.out ?_ ?_; (· go_simp); (go_simp))
            (refine j_skip 32 _ hs rfl (by kernel_rfl) (by kernel_rfl) HJ.out ?_ ?_; (· go_simp); (go_simp))
            (refine j_take2 33 _ ?_ hs rfl (by kernel_rfl) (by kernel_rfl) HJ.out ?_ (fun w' hw' => ?_) ?_; rotate_left; (· go_simp); (· skip; go_simp; rfl); (go_simp))
            (refine j_take2 34 _ ?_ hs rfl (by kernel_rfl) (by kernel_rfl) HJ.out ?_ (fun w' hw' => ?_) ?_; rotate_left; (· go_simp); (· skip; go_simp; rfl); (go_simp))
            (refine j_skip 35 _ hs rfl (by kernel_rfl) (by kernel_rfl) HJ.out ?_ ?_; (· go_simp); (go_simp))
            (refine j_skip 36 _ hs rfl (by kernel_rfl) (by kernel_rfl) HJ.out ?_ ?_; (· go_simp); (go_simp))
            (refine j_skip 37 _ hs rfl (by kernel_rfl) (by kernel_rfl) HJ.out ?_ ?_; (· go_simp); (go_simp))
            (refine j_skip 38 _ hs rfl (by kernel_rfl) (by kernel_rfl) HJ.out ?_ ?_; (· go_simp); (go_simp))
            (refine j_skip 39 _ hs rfl (by kernel_rfl) (by kernel_rfl) HJ.out ?_ ?_; (· go_simp); (go_simp))
            (refine j_skip 40 _ hs rfl (by kernel_rfl) (by kernel_rfl) HJ.out ?_ ?_; (· go_simp); (go_simp))
            (refine j_skip 41 _ hs rfl (by kernel_rfl) (by kernel_rfl) HJ.out ?_ ?_; (· go_simp); (go_simp))
            (refine j_skip 42 _ hs rfl (by kernel_rfl) (by kernel_rfl) HJ.out ?_ ?_; (· go_simp); (go_simp))
            (refine j_skip 43 _ hs rfl (by kernel_rfl) (by kernel_rfl) HJ.out ?_ ?_; (· go_simp); (go_simp))
            (refine j_skip 44 _ hs rfl (by kernel_rfl) (by kernel_rfl) HJ.out ?_ ?_; (· go_simp); (go_simp))
            (refine j_skip 45 _ hs rfl (by kernel_rfl) (by kernel_rfl) HJ.out ?_ ?_; (· go_simp); (go_simp))
            (refine j_take2 46 _ ?_ hs rfl (by kernel_rfl) (by kernel_rfl) HJ.out ?_ (fun w' hw' => ?_) ?_; rotate_left; (· go_simp); (· skip; go_simp; rfl); (go_simp))
            (refine j_take 47 _ ?_ hs rfl rfl (by kernel_rfl) (by kernel_rfl) HJ.out (fun w' hw' => ?_) ?_; rotate_left; (· skip; go_simp; rfl); (go_simp))
            refine j_done (by kernel_rfl) ?_
            go_wp2_with fail
            go_meet
            exact ⟨rfl, HJ.out⟩
          · obtain ⟨m, rfl⟩ : ∃ m, k = m + 1 := ⟨k - 1, by omega⟩
            obtain ⟨y0, y1, fa, fb⟩ := FA.out m rfl
            have fa := nord fa
            have q0i : (0 : Int) < ((m + 1 : Nat) : Int) := by omega
            have mM : (m : Int) < ((m + 1 + 1 : Nat) : Int) := by omega
            have mM1 : ((m + 1 : Nat) : Int) < ((m + 1 + 1 : Nat) : Int) := by omega
            have q00 : (0 : Int) ≤ (m : Int) + 1 := by omega
            have q01 : (m : Int) < (m : Int) + 1 := by omega
            have q02 : (m : Int) < (m : Int) + 1 + 1 := by omega
            have q03 : (m : Int) + 1 < (m : Int) + 1 + 1 := by omega
            have wz : IntKind.i64.wrap (m : Int) = (m : Int) := IntWalk.i64_in _ (by omega)
            have ns := ne_self y0
            have es := eq_self (p.power)
            by_cases nn : Nan y0
            · rw [decide_eq_true nn] at ns
              rw [decide_eq_false (by simpa using fb nn)] at es
              clear fb nn FA
              refine wp_region_J 48 (fun x => Below w8.heap.size w8 x) (by kernel_rfl) rfl (by kernel_rfl) ((Below.refl _ w8).drew) (fun wj hJ hs => ?_)
              have HJ := Lib.hid hJ
              clear hJ
              (refine j_take 0 _ ?_ hs rfl rfl (by kernel_rfl) (by kernel_rfl) HJ.out (fun w' hw' => ?_) ?_; rotate_left; (· skip; go_simp; rfl); (go_simp))
              (refine j_take 1 _ ?_ hs rfl rfl (by kernel_rfl) (by kernel_rfl) HJ.out (fun w' hw' => ?_) ?_; rotate_left; (· skip; go_simp; rfl); (go_simp))
              (refine j_take 2 _ ?_ hs rfl rfl (by kernel_rfl) (by kernel_rfl) HJ.out (fun w' hw' => ?_) ?_; rotate_left; (· skip; go_simp; rfl); (go_simp))
              (refine j_take2 3 _ ?_ hs rfl (by kernel_rfl) (by kernel_rfl) HJ.out ?_ (fun w' hw' => ?_) ?_; rotate_left; (· go_simp); (· skip; go_simp; rfl); (go_simp))
              (refine j_take2 4 _ ?_ hs rfl (by kernel_rfl) (by kernel_rfl) HJ.out ?_ (fun w' hw' => ?_) ?_; rotate_left; (· go_simp); (· skip; go_simp; rfl); (go_simp))
              (refine j_take2 5 _ ?_ hs rfl (by kernel_rfl) (by kernel_rfl) HJ.out ?_ (fun w' hw' => ?_) ?_; rotate_left; (· go_simp); (· skip; go_simp; rfl); (go_simp))
              (refine j_take2 6 _ ?_ hs rfl (by kernel_rfl) (by kernel_rfl) HJ.out ?_ (fun w' hw' => ?_) ?_; rotate_left; (· go_simp); (· skip; go_simp; rfl); (go_simp))
              (refine j_take2 7 _ ?_ hs rfl (by kernel_rfl) (by kernel_rfl) HJ.out ?_ (fun w' hw' => ?_) ?_; rotate_left; (· go_simp); (· have d := (hw'.cell (p := ⟨bs, (m + 1) * 5 + 2, none⟩) zs).trans s2; go_simp; rfl); (go_simp))
              (refine j_take2 8 _ ?_ hs rfl (by kernel_rfl) (by kernel_rfl) HJ.out ?_ (fun w' hw' => ?_) ?_; rotate_left; (· go_simp); (· skip; go_simp; rfl); (go_simp))
              (refine j_take2 9 _ ?_ hs rfl (by kernel_rfl) (by kernel_rfl) HJ.out ?_ (fun w' hw' => ?_) ?_; rotate_left; (· go_simp); (· skip; go_simp; rfl); (go_simp))
              (refine j_take2 10 _ ?_ hs rfl (by kernel_rfl) (by kernel_rfl) HJ.out ?_ (fun w' hw' => ?_) ?_; rotate_left; (· go_simp); (· skip; go_simp; rfl); (go_simp))
              (refine j_take2 11 _ ?_ hs rfl (by kernel_rfl) (by kernel_rfl) HJ.out ?_ (fun w' hw' => ?_) ?_; rotate_left; (· go_simp); (· skip; go_simp; rfl); (go_simp))
              (refine j_take2 12 _ ?_ hs rfl (by kernel_rfl) (by kernel_rfl) HJ.out ?_ (fun w' hw' => ?_) ?_; rotate_left; (· go_simp); (· skip; go_simp; rfl); (go_simp))
              (refine j_take2 13 _ ?_ hs rfl (by kernel_rfl) (by kernel_rfl) HJ.out ?_ (fun w' hw' => ?_) ?_; rotate_left; (· go_simp); (· have d := (hw'.cell (p := ⟨bs, m * 5 + 2, none⟩) zs).trans y1; go_simp; rfl); (go_simp))
              (refine j_take2 14 _ ?_ hs rfl (by kernel_rfl) (by kernel_rfl) HJ.out ?_ (fun w' hw' => ?_) ?_; rotate_left; (· go_simp); (· skip; go_simp; rfl); (go_simp))
              (refine j_take 15 _ ?_ hs rfl rfl (by kernel_rfl) (by kernel_rfl) HJ.out (fun w' hw' => ?_) ?_; rotate_left; (· skip; go_simp; rfl); (go_simp))
              (refine j_take 16 _ ?_ hs rfl rfl (by kernel_rfl) (by kernel_rfl) HJ.out (fun w' hw' => ?_) ?_; rotate_left; (· skip; go_simp; rfl); (go_simp))
              (refine j_take2 17 _ ?_ hs rfl (by kernel_rfl) (by kernel_rfl) HJ.out ?_ (fun w' hw' => ?_) ?_; rotate_left; (· go_simp); (· skip; go_simp; rfl); (go_simp))
              (refine j_take2 18 _ ?_ hs rfl (by kernel_rfl) (by kernel_rfl) HJ.out ?_ (fun w' hw' => ?_) ?_; rotate_left; (· go_simp); (· skip; go_simp; rfl); (go_simp))
              (refine j_take2 19 _ ?_ hs rfl (by kernel_rfl) (by kernel_rfl) HJ.out ?_ (fun w' hw' => ?_) ?_; rotate_left; (· go_simp); (· skip; go_simp; rfl); (go_simp))
              (refine j_take2 20 _ ?_ hs rfl (by kernel_rfl) (by kernel_rfl) HJ.out ?_ (fun w' hw' => ?_) ?_; rotate_left; (· go_simp); (· skip; go_simp; rfl); (go_simp))
              (refine j_take2 21 _ ?_ hs rfl (by kernel_rfl) (by kernel_rfl) HJ.out ?_ (fun w' hw' => ?_) ?_; rotate_left; (· go_simp); (· skip; go_simp; rfl); (go_simp))
              (refine j_take2 22 _ ?_ hs rfl (by kernel_rfl) (by kernel_rfl) HJ.out ?_ (fun w' hw' => ?_) ?_; rotate_left; (· go_simp); (· skip; go_simp; rfl); (go_simp))
              (refine j_take2 23 _ ?_ hs rfl (by kernel_rfl) (by kernel_rfl) HJ.out ?_ (fun w' hw' => ?_) ?_; rotate_left; (· go_simp); (· skip; go_simp; rfl); (go_simp))
              (refine j_take2 24 _ ?_ hs rfl (by kernel_rfl) (by kernel_rfl) HJ.out ?_ (fun w' hw' => ?_) ?_; rotate_left; (· go_simp); (· skip; go_simp; rfl); (go_simp))
              (refine j_take2 25 _ ?_ hs rfl (by kernel_rfl) (by kernel_rfl) HJ.out ?_ (fun w' hw' => ?_) ?_; rotate_left; (· go_simp); (· have d := (hw'.cell (p := ⟨bs, m * 5 + 2, none⟩) zs).trans y1; go_simp; rfl); (go_simp))
              (refine j_take2 26 _ ?_ hs rfl (by kernel_rfl) (by kernel_rfl) HJ.out ?_ (fun w' hw' => ?_) ?_; rotate_left; (· go_simp); (· skip; go_simp; rfl); (go_simp))
              (refine j_take2 27 _ ?_ hs rfl (by kernel_rfl) (by kernel_rfl) HJ.out ?_ (fun w' hw' => ?_) ?_; rotate_left; (· go_simp); (· skip; go_simp; rfl); (go_simp))
              (refine j_take2 28 _ ?_ hs rfl (by kernel_rfl) (by kernel_rfl) HJ.out ?_ (fun w' hw' => ?_) ?_; rotate_left; (· go_simp); (· skip; go_simp; rfl); (go_simp))
              (refine j_take2 29 _ ?_ hs rfl (by kernel_rfl) (by kernel_rfl) HJ.out ?_ (fun w' hw' => ?_) ?_; rotate_left; (· go_simp); (· skip; go_simp; rfl); (go_simp))
              (refine j_take2 30 _ ?_ hs rfl (by kernel_rfl) (by kernel_rfl) HJ.out ?_ (fun w' hw' => ?_) ?_; rotate_left; (· go_simp); (· skip; go_simp; rfl); (go_simp))
              (refine j_take2 31 _ ?_ hs rfl (by kernel_rfl) (by kernel_rfl) HJ.out ?_ (fun w' hw' => ?_) ?_; rotate_left; (· go_simp); (· have d := (hw'.cell (p := ⟨bs, m * 5 + 2, none⟩) zs).trans y1; go_simp; rfl); (go_simp))
              (refine j_take2 32 _ ?_ hs rfl (by kernel_rfl) (by kernel_rfl) HJ.out ?_ (fun w' hw' => ?_) ?_; rotate_left; (· go_simp); (· skip; go_simp; rfl); (go_simp))
              (refine j_take2 33 _ ?_ hs rfl (by kernel_rfl) (by kernel_rfl) HJ.out ?_ (fun w' hw' => ?_) ?_; rotate_left; (· go_simp); (· skip; go_simp; rfl); (go_simp))
              (refine j_take2 34 _ ?_ hs rfl (by kernel_rfl) (by kernel_rfl) HJ.out ?_ (fun w' hw' => ?_) ?_; rotate_left; (· go_simp); (· skip; go_simp; rfl); (go_simp))
              (refine j_take2 35 _ ?_ hs rfl (by kernel_rfl) (by kernel_rfl) HJ.out ?_ (fun w' hw' => ?_) ?_; rotate_left; (· go_simp); (· skip; go_simp; rfl); (go_simp))
              (refine j_take2 36 _ ?_ hs rfl (by kernel_rfl) (by kernel_rfl) HJ.out ?_ (fun w' hw' => ?_) ?_; rotate_left; (· go_simp); (· skip; go_simp; rfl); (go_simp))
              (refine j_take2 37 _ ?_ hs rfl (by kernel_rfl) (by kernel_rfl) HJ.out ?_ (fun w' hw' => ?_) ?_; rotate_left; (· go_simp); (· skip; go_simp; rfl); (go_simp))
              (refine j_take2 38 _ ?_ hs rfl (by kernel_rfl) (by kernel_rfl) HJ.out ?_ (fun w' hw' => ?_) ?_; rotate_left; (· go_simp); (· skip; go_simp; rfl); (go_simp))
              (refine j_take2 39 _ ?_ hs rfl (by kernel_rfl) (by kernel_rfl) HJ.out ?_ (fun w' hw' => ?_) ?_; rotate_left; (· go_simp); (· have d := (hw'.cell (p := ⟨bs, (m + 1) * 5 + 2, none⟩) zs).trans s2; go_simp; rfl); (go_simp))
              (refine j_take2 40 _ ?_ hs rfl (by kernel_rfl) (by kernel_rfl) HJ.out ?_ (fun w' hw' => ?_) ?_; rotate_left; (· go_simp); (· skip; go_simp; rfl); (go_simp))
              (refine j_take2 41 _ ?_ hs rfl (by kernel_rfl) (by kernel_rfl) HJ.out ?_ (fun w' hw' => ?_) ?_; rotate_left; (· go_simp); (· skip; go_simp; rfl); (go_simp))
              (refine j_take2 42 _ ?_ hs rfl (by kernel_rfl) (by kernel_rfl) HJ.out ?_ (fun w' hw' => ?_) ?_; rotate_left; (· go_simp); (· skip; go_simp; rfl); (go_simp))
              (refine j_take2 43 _ ?_ hs rfl (by kernel_rfl) (by kernel_rfl) HJ.out ?_ (fun w' hw' => ?_) ?_; rotate_left; (· go_simp); (· skip; go_simp; rfl); (go_simp))
              (refine j_take2 44 _ ?_ hs rfl (by kernel_rfl) (by kernel_rfl) HJ.out ?_ (fun w' hw' => ?_) ?_; rotate_left; (· go_simp); (· have d := (hw'.cell (p := ⟨bs, (m + 1) * 5 + 2, none⟩) zs).trans s2; go_simp; rfl); (go_simp))
              (refine j_take2 45 _ ?_ hs rfl (by kernel_rfl) (by kernel_rfl) HJ.out ?_ (fun w' hw' => ?_) ?_; rotate_left; (· go_simp); (· skip; go_simp; rfl); (go_simp))
              (refine j_take2 46 _ ?_ hs rfl (by kernel_rfl) (by kernel_rfl) HJ.out ?_ (fun w' hw' => ?_) ?_; rotate_left; (· go_simp); (· skip; go_simp; rfl); (go_simp))
              (refine j_take 47 _ ?_ hs rfl rfl (by kernel_rfl) (by kernel_rfl) HJ.out (fun w' hw' => ?_) ?_; rotate_left; (· skip; go_simp; rfl); (go_simp))
              refine j_done (by kernel_rfl) ?_
              go_wp2_with fail
              go_meet
              exact ⟨rfl, HJ.out⟩
            · rw [decide_eq_false nn] at ns
              clear fb nn FA es
              refine wp_region_J 48 (fun x => Below w8.heap.size w8 x) (by kernel_rfl) rfl (by kernel_rfl) ((Below.refl _ w8).drew) (fun wj hJ hs => ?_)
              have HJ := Lib.hid hJ
              clear hJ
              (refine j_take 0 _ ?_ hs rfl rfl (by kernel_rfl) (by kernel_rfl) HJ.out (fun w' hw' => ?_) ?_; rotate_left; (· skip; go_simp; rfl); (go_simp))
              (refine j_take 1 _ ?_ hs rfl rfl (by kernel_rfl) (by kernel_rfl) HJ.out (fun w' hw' => ?_) ?_; rotate_left; (· skip; go_simp; rfl); (go_simp))
              (refine j_take 2 _ ?_ hs rfl rfl (by kernel_rfl) (by kernel_rfl) HJ.out (fun w' hw' => ?_) ?_; rotate_left; (· skip; go_simp; rfl); (go_simp))
              (refine j_take2 3 _ ?_ hs rfl (by kernel_rfl) (by kernel_rfl) HJ.out ?_ (fun w' hw' => ?_) ?_; rotate_left; (· go_simp); (· skip; go_simp; rfl); (go_simp))
              (refine j_take2 4 _ ?_ hs rfl (by kernel_rfl) (by kernel_rfl) HJ.out ?_ (fun w' hw' => ?_) ?_; rotate_left; (· go_simp); (· skip; go_simp; rfl); (go_simp))
              (refine j_take2 5 _ ?_ hs rfl (by kernel_rfl) (by kernel_rfl) HJ.out ?_ (fun w' hw' => ?_) ?_; rotate_left; (· go_simp); (· skip; go_simp; rfl); (go_simp))
              (refine j_take2 6 _ ?_ hs rfl (by kernel_rfl) (by kernel_rfl) HJ.out ?_ (fun w' hw' => ?_) ?_; rotate_left; (· go_simp); (· skip; go_simp; rfl); (go_simp))
              (refine j_take2 7 _ ?_ hs rfl (by kernel_rfl) (by kernel_rfl) HJ.out ?_ (fun w' hw' => ?_) ?_; rotate_left; (· go_simp); (· have d := (hw'.cell (p := ⟨bs, (m + 1) * 5 + 2, none⟩) zs).trans s2; go_simp; rfl); (go_simp))
              (refine j_take2 8 _ ?_ hs rfl (by kernel_rfl) (by kernel_rfl) HJ.out ?_ (fun w' hw' => ?_) ?_; rotate_left; (· go_simp); (· skip; go_simp; rfl); (go_simp))
              (refine j_take2 9 _ ?_ hs rfl (by kernel_rfl) (by kernel_rfl) HJ.out ?_ (fun w' hw' => ?_) ?_; rotate_left; (· go_simp); (· skip; go_simp; rfl); (go_simp))
              (refine j_take2 10 _ ?_ hs rfl (by kernel_rfl) (by kernel_rfl) HJ.out ?_ (fun w' hw' => ?_) ?_; rotate_left; (· go_simp); (· skip; go_simp; rfl); (go_simp))
              (refine j_take2 11 _ ?_ hs rfl (by kernel_rfl) (by kernel_rfl) HJ.out ?_ (fun w' hw' => ?_) ?_; rotate_left; (· go_simp); (· skip; go_simp; rfl); (go_simp))
              (refine j_take2 12 _ ?_ hs rfl (by kernel_rfl) (by kernel_rfl) HJ.out ?_ (fun w' hw' => ?_) ?_; rotate_left; (· go_simp); (· skip; go_simp; rfl); (go_simp))
              (refine j_take2 13 _ ?_ hs rfl (by kernel_rfl) (by kernel_rfl) HJ.out ?_ (fun w' hw' => ?_) ?_; rotate_left; (· go_simp); (· have d := (hw'.cell (p := ⟨bs, m * 5 + 2, none⟩) zs).trans y1; go_simp; rfl); (go_simp))
              (refine j_take2 14 _ ?_ hs rfl (by kernel_rfl) (by kernel_rfl) HJ.out ?_ (fun w' hw' => ?_) ?_; rotate_left; (· go_simp); (· skip; go_simp; rfl); (go_simp))
              (refine j_take 15 _ ?_ hs rfl rfl (by kernel_rfl) (by kernel_rfl) HJ.out (fun w' hw' => ?_) ?_; rotate_left; (· skip; go_simp; rfl); (go_simp))
              (refine j_take 16 _ ?_ hs rfl rfl (by kernel_rfl) (by kernel_rfl) HJ.out (fun w' hw' => ?_) ?_; rotate_left; (· skip; go_simp; rfl); (go_simp))
              (refine j_take2 17 _ ?_ hs rfl (by kernel_rfl) (by kernel_rfl) HJ.out ?_ (fun w' hw' => ?_) ?_; rotate_left; (· go_simp); (· skip; go_simp; rfl); (go_simp))
              (refine j_take2 18 _ ?_ hs rfl (by kernel_rfl) (by kernel_rfl) HJ.out ?_ (fun w' hw' => ?_) ?_; rotate_left; (· go_simp); (· skip; go_simp; rfl); (go_simp))
              (refine j_take2 19 _ ?_ hs rfl (by kernel_rfl) (by kernel_rfl) HJ.out ?_ (fun w' hw' => ?_) ?_; rotate_left; (· go_simp); (· skip; go_simp; rfl); (go_simp))
              (refine j_take2 20 _ ?_ hs rfl (by kernel_rfl) (by kernel_rfl) HJ.out ?_ (fun w' hw' => ?_) ?_; rotate_left; (· go_simp); (· skip; go_simp; rfl); (go_simp))
              (refine j_take2 21 _ ?_ hs rfl (by kernel_rfl) (by kernel_rfl) HJ.out ?_ (fun w' hw' => ?_) ?_; rotate_left; (· go_simp); (· skip; go_simp; rfl); (go_simp))
              (refine j_take2 22 _ ?_ hs rfl (by kernel_rfl) (by kernel_rfl) HJ.out ?_ (fun w' hw' => ?_) ?_; rotate_left; (· go_simp); (· skip; go_simp; rfl); (go_simp))
              (refine j_take2 23 _ ?_ hs rfl (by kernel_rfl) (by kernel_rfl) HJ.out ?_ (fun w' hw' => ?_) ?_; rotate_left; (· go_simp); (· skip; go_simp; rfl); (go_simp))
              (refine j_take2 24 _ ?_ hs rfl (by kernel_rfl) (by kernel_rfl) HJ.out ?_ (fun w' hw' => ?_) ?_; rotate_left; (· go_simp); (· skip; go_simp; rfl); (go_simp))
              (refine j_take2 25 _ ?_ hs rfl (by kernel_rfl) (by kernel_rfl) HJ.out ?_ (fun w' hw' => ?_) ?_; rotate_left; (· go_simp); (· have d := (hw'.cell (p := ⟨bs, m * 5 + 2, none⟩) zs).trans y1; go_simp; rfl); (go_simp))
              (refine j_take2 26 _ ?_ hs rfl (by kernel_rfl) (by kernel_rfl) HJ.out ?_ (fun w' hw' => ?_) ?_; rotate_left; (· go_simp); (· skip; go_simp; rfl); (go_simp))
              (refine j_take2 27 _ ?_ hs rfl (by kernel_rfl) (by kernel_rfl) HJ.out ?_ (fun w' hw' => ?_) ?_; rotate_left; (· go_simp); (· skip; go_simp; rfl); (go_simp))
              (refine j_take2 28 _ ?_ hs rfl (by kernel_rfl) (by kernel_rfl) HJ.out ?_ (fun w' hw' => ?_) ?_; rotate_left; (· go_simp); (· skip; go_simp; rfl); (go_simp))
              (refine j_take2 29 _ ?_ hs rfl (by kernel_rfl) (by kernel_rfl) HJ.out ?_ (fun w' hw' => ?_) ?_; rotate_left; (· go_simp); (· skip; go_simp; rfl); (go_simp))
              (refine j_take2 30 _ ?_ hs rfl (by kernel_rfl) (by kernel_rfl) HJ.out ?_ (fun w' hw' => ?_) ?_; rotate_left; (· go_simp); (· skip; go_simp; rfl); (go_simp))
              (refine j_take2 31 _ ?_ hs rfl (by kernel_rfl) (by kernel_rfl) HJ.out ?_ (fun w' hw' => ?_) ?_; rotate_left; (· go_simp); (· have d := (hw'.cell (p := ⟨bs, m * 5 + 2, none⟩) zs).trans y1; go_simp; rfl); (go_simp))
              (refine j_take2 32 _ ?_ hs rfl (by kernel_rfl) (by kernel_rfl) HJ.out ?_ (fun w' hw' => ?_) ?_; rotate_left; (· go_simp); (· skip; go_simp; rfl); (go_simp))
              (refine j_take2 33 _ ?_ hs rfl (by kernel_rfl) (by kernel_rfl) HJ.out ?_ (fun w' hw' => ?_) ?_; rotate_left; (· go_simp); (· skip; go_simp; rfl); (go_simp))
              (refine j_take2 34 _ ?_ hs rfl (by kernel_rfl) (by kernel_rfl) HJ.out ?_ (fun w' hw' => ?_) ?_; rotate_left; (· go_simp); (· skip; go_simp; rfl); (go_simp))
              (refine j_skip 35 _ hs rfl (by kernel_rfl) (by kernel_rfl) HJ.out ?_ ?_; (· go_simp); (go_simp))
              (refine j_skip 36 _ hs rfl (by kernel_rfl) (by kernel_rfl) HJ.out ?_ ?_; (· go_simp); (go_simp))
              (refine j_skip 37 _ hs rfl (by kernel_rfl) (by kernel_rfl) HJ.out ?_ ?_; (· go_simp); (go_simp))
              (refine j_skip 38 _ hs rfl (by kernel_rfl) (by kernel_rfl) HJ.out ?_ ?_; (· go_simp); (go_simp))
              (refine j_skip 39 _ hs rfl (by kernel_rfl) (by kernel_rfl) HJ.out ?_ ?_; (· go_simp); (go_simp))
              (refine j_skip 40 _ hs rfl (by kernel_rfl) (by kernel_rfl) HJ.out ?_ ?_; (· go_simp); (go_simp))
              (refine j_skip 41 _ hs rfl (by kernel_rfl) (by kernel_rfl) HJ.out ?_ ?_; (· go_simp); (go_simp))
              (refine j_skip 42 _ hs rfl (by kernel_rfl) (by kernel_rfl) HJ.out ?_ ?_; (· go_simp); (go_simp))
              (refine j_skip 43 _ hs rfl (by kernel_rfl) (by kernel_rfl) HJ.out ?_ ?_; (· go_simp); (go_simp))
              (refine j_skip 44 _ hs rfl (by kernel_rfl) (by kernel_rfl) HJ.out ?_ ?_; (· go_simp); (go_simp))
              (refine j_skip 45 _ hs rfl (by kernel_rfl) (by kernel_rfl) HJ.out ?_ ?_; (· go_simp); (go_simp))
              (refine j_take2 46 _ ?_ hs rfl (by kernel_rfl) (by kernel_rfl) HJ.out ?_ (fun w' hw' => ?_) ?_; rotate_left; (· go_simp); (· skip; go_simp; rfl); (go_simp))
              (refine j_take 47 _ ?_ hs rfl rfl (by kernel_rfl) (by kernel_rfl) HJ.out (fun w' hw' => ?_) ?_; rotate_left; (· skip; go_simp; rfl); (go_simp))
              refine j_done (by kernel_rfl) ?_
              go_wp2_with fail
              go_meet
              exact ⟨rfl, HJ.out⟩
        case rest =>
          obtain ⟨rfl, bb⟩ := hcut
          have O10 := Lib.hid (O9.out.keep bb)
          clear bb O9 s2 zs FA
          go_wp2_with fail
          go_roundw
          case rel => exact ⟨k + 1, by go_num, by omega, O10.out⟩
          case measure => simp only [intOf]; omega
      · obtain rfl : k = n := by omega
        obtain ⟨a5, c5, rfl, sv⟩ := sp_own OK.out.r (fun p hp => sorted_lt SP.out.lt k p (List.mem_of_mem_take hp))
        rw [List.take_of_length_le (by rw [sorted_len]; exact Nat.le_refl _)] at sv
        have SV := Lib.hid sv
        have B1 := Lib.hid OK.out.b
        clear sv OK
        go_wp2_with fail
        refine (order_all a5 k c5 (sortedL l k) wr SV.out (by omega)).mono ?_
        rintro e w3 ⟨g3, rfl, hg3, hd3, hb3⟩
        have D3 : Hid (Di w3 g3 (List.range k)) := Lib.hid (by rw [← ord_again l k]; exact hd3)
        have S3 := Lib.hid (SV.out.keep hb3)
        have B3 := Lib.hid (B1.out.trans (hb3.mono B1.out.size))
        clear hg3 hd3 hb3 SV B1
        go_wp2_with fail
        go_loopw [10] (fun v10 wr => ∃ i : Nat, v10 = .int .i64 i ∧ i ≤ k ∧ Below w3.heap.size w3 wr) (fun v10 _ => k - (intOf v10).toNat)
        case atStart => exact ⟨0, rfl, by omega, Below.refl _ _⟩
        case round =>
          obtain ⟨i, rfl, hi, hb4⟩ := hrel
          have B4 := Lib.hid hb4
          clear hb4
          by_cases hlt : i < k
          · have k1 : (i : Int) < (k : Int) := by omega
            have c0 := (D3.out.keep B4.out).cell (j := i) (x := i) (List.getElem?_range hlt)
            have z0 := Nat.lt_of_lt_of_le D3.out.lt B4.out.size
            clear D3 S3 SP B3
            go_wp2_with fail
            go_roundw
            case rel => exact ⟨i + 1, by go_num, by omega, B4.out⟩
            case measure => simp only [intOf]; omega
          · obtain rfl : i = k := by omega
            obtain ⟨w4, e4⟩ : ∃ y, y = wr := ⟨_, rfl⟩
            rw [← e4] at B4 ⊢
            clear e4
            have S4 := Lib.hid (S3.out.keep B4.out)
            have B4 := Lib.hid (B3.out.trans (B4.out.mono B3.out.size))
            have L4 := Lib.hid (SP.out.keep B4.out)
            clear S3 B3 D3 SP
            obtain ⟨cc, hcc⟩ : ∃ cc : Nat, cc < 2 * i ∨ i = 0 := ⟨0, by omega⟩
            go_wp2_with fail
            go_loopw [11, 12] (fun v11 v12 wr => ∃ j : Nat, v12 = .int .i64 j ∧ j ≤ i ∧ wr.ownsRow w4.heap.size 28 5 v11 j (plv ((turnedL l i ((Int.tmod by0 (i : Int) + (i : Int)).toNat)).take j)) ∧ Below w4.heap.size w4 wr) (fun _ v12 _ => i - (intOf v12).toNat)
            case atStart => exact ⟨0, rfl, by omega, World.ownsRow_nil _ _ _ _, Below.refl _ _⟩
            case round =>
              obtain ⟨j, rfl, hj, ow, hb5⟩ := hrel
              have B5 := Lib.hid hb5
              have OW := Lib.hid ow
              obtain ⟨av, cv, rfl, v1, v2⟩ := rs_form ow
              clear hb5 ow
              obtain ⟨w5, e5⟩ : ∃ y, y = wr := ⟨_, rfl⟩
              rw [← e5] at B5 OW ⊢
              clear e5
              by_cases hlt : j < i
              · have ji : (j : Int) < (i : Int) := by omega
                have i0 : ¬ (i : Int) = 0 := by omega
                have ib : ((i : Int) == 0) = false := by rw [beq_eq_false_iff_ne]; exact i0
                have r1 := Int.tmod_lt_of_pos by0 (show (0 : Int) < (i : Int) by omega)
                have r2 := Int.lt_tmod_of_pos by0 (show (0 : Int) < (i : Int) by omega)
                obtain ⟨r, hr⟩ : ∃ r, r = Int.tmod by0 (i : Int) := ⟨_, rfl⟩
                rw [← hr] at r1 r2 OW ⊢
                replace hr := hr.symm
                obtain ⟨c, hc⟩ : ∃ c : Nat, (c : Int) = r + (i : Int) := ⟨(r + (i : Int)).toNat, by omega⟩
                have ec : (r + (i : Int)).toNat = c := by omega
                rw [ec] at OW ⊢
                have hc2 : c < 2 * i := by omega
                obtain ⟨x, hx⟩ : ∃ x, x = rot i c j := ⟨_, rfl⟩
                have xi : x < i := by rw [hx]; exact rot_lt hc2 hlt
                have x1 : (x : Int) < (i : Int) := by omega
                have w1 : IntKind.i64.wrap ((j : Int) + r) = (j : Int) + r := IntWalk.i64_in _ (by omega)
                have w2 : IntKind.i64.wrap ((j : Int) + r + (i : Int)) = (j : Int) + r + (i : Int) := IntWalk.i64_in _ (by omega)
                have t2 : Int.tmod ((j : Int) + r + (i : Int)) (i : Int) = (x : Int) := by
                  rw [show (j : Int) + r + (i : Int) = ((j + c : Nat) : Int) by omega, Int.tmod_eq_emod_of_nonneg (by omega), hx, ← rot_mod hc2 hlt]; rfl
                obtain ⟨bp, op, p, rfl, hb, hp, ⟨p0, p1, p2, p3, p4⟩, ltp⟩ := (L4.out.keep B5.out).at xi
                have SN := Lib.hid (turned_snoc hlt (hx ▸ hp))
                clear hp ltp hx hc r1 r2
                have zC := B5.out.size
                go_wp2_with (refine wpList_append_own_at _ rfl (.tmp 143) (.tmp 159) 47 rfl w4.heap.size 28 I Z 5 40 Try.undP ti tz ts1 ty tk (by decide) (.slice av j cv) j (plv ((turnedL l i c).take j)) rfl (OW.out.alloc _) ⟨w5.heap.size, 0, none⟩ 1 1 (ptv p) rfl rfl (mpt_cells (q := p) (Deep.blk_alloc_new w5 _)) (mpt_one _) (by simp only [maxLen]; omega) (by omega) (by simp; omega) ?_; intro v9 w9 ow gr _ _; have Q9 := Lib.hid (sp_app OW.out zC ow gr); clear ow gr p0 p1 p2 p3 p4 hb)
                have X9 : Hid (w9.ownsRow w4.heap.size 28 5 v9 (j + 1) (plv ((turnedL l i c).take (j + 1)))) := Lib.hid (by rw [← SN.out]; exact Q9.out.2)
                have Y9 := Lib.hid (B5.out.trans Q9.out.1)
                clear Q9 SN OW B5 L4
                go_roundw
                case rel => exact ⟨j + 1, by go_num, by omega, X9.out, Y9.out⟩
                case measure => simp only [intOf]; omega
              · obtain rfl : j = i := by omega
                obtain ⟨C, hC⟩ : ∃ C, C = (Int.tmod by0 (j : Int) + (j : Int)).toNat := ⟨_, rfl⟩
                rw [← hC] at OW
                have cB : j = 0 ∨ C < 2 * j := by
                  by_cases z : j = 0
                  · exact .inl z
                  · have r1 := Int.tmod_lt_of_pos by0 (show (0 : Int) < (j : Int) by omega)
                    have r2 := Int.lt_tmod_of_pos by0 (show (0 : Int) < (j : Int) by omega)
                    right; omega
                have CB := Lib.hid cB
                clear hC cB
                obtain ⟨a6, c6, e6, sv⟩ := sp_own OW.out (fun p hp => turned_lt L4.out.lt j C p (List.mem_of_mem_take hp))
                obtain ⟨rfl, rfl⟩ : av = a6 ∧ cv = c6 := by simpa using e6
                rw [List.take_of_length_le (by rw [turned_len]; exact Nat.le_refl _)] at sv
                have TV := Lib.hid sv
                have LT := Lib.hid L4.out.lt
                have S5 := Lib.hid (S4.out.keep B5.out)
                have B6 := Lib.hid (B4.out.trans (B5.out.mono B4.out.size))
                clear sv e6 OW S4 B4 L4 B5
                go_wp2_with fail
                refine (order_all av j cv (turnedL l j C) w5 TV.out (by omega)).mono ?_
                rintro e w6 ⟨g6, rfl, hg6, hd6, hb6⟩
                have D6 : Hid (Di w6 g6 (ordL (ltI (turnedL l j C)) j)) := Lib.hid hd6
                have T6 := Lib.hid (TV.out.keep hb6)
                have S6 := Lib.hid (S5.out.keep hb6)
                have B7 := Lib.hid (B6.out.trans (hb6.mono B6.out.size))
                clear hg6 hd6 hb6 TV S5 B6
                go_wp2_with fail
                go_loopw [14] (fun v14 wr => ∃ q : Nat, v14 = .int .i64 q ∧ q ≤ j ∧ Below w6.heap.size w6 wr) (fun v14 _ => j - (intOf v14).toNat)
                case atStart => exact ⟨0, rfl, by omega, Below.refl _ _⟩
                case round =>
                  obtain ⟨q, rfl, hq, hb8⟩ := hrel
                  have B8 := Lib.hid hb8
                  clear hb8
                  by_cases hlt : q < j
                  · have qj : (q : Int) < (j : Int) := by omega
                    obtain ⟨y, hy, yn⟩ := ord_at (turnedL l j C) hlt
                    have y1 : (y : Int) < (j : Int) := by omega
                    have y2 : ¬ (j : Int) ≤ (y : Int) := by omega
                    have y3 : ¬ (y : Int) < 0 := by omega
                    have c0 := (D6.out.keep B8.out).cell hy
                    have z0 := Nat.lt_of_lt_of_le D6.out.lt B8.out.size
                    obtain ⟨bp, op, p, rfl, hb, hp, ⟨p0, p1, p2, p3, p4⟩, ltp⟩ := (T6.out.keep B8.out).at yn
                    obtain ⟨bq, oq, s, rfl, hbq, hs', ⟨q0, q1, q2, q3, q4⟩, lts⟩ := (S6.out.keep B8.out).at hlt
                    have IS : IsP p s := by
                      have := turned_same (k := q) LT.out (CB.out.resolve_left (by omega)) hlt
                      rw [ord_get hy, getPt' hp, getPt' hs'] at this
                      exact this
                    obtain ⟨e0, e1, e2, e3, e4⟩ := IS
                    have CS := Lib.hid (fun w => same_walk p s w lts e0 e1 e2 e3 e4)
                    clear e0 e1 e2 e3 e4 hp hs' ltp lts hy D6 T6 S6 B7
                    obtain ⟨w8, e8⟩ : ∃ y, y = wr := ⟨_, rfl⟩
                    rw [← e8] at B8 hb hbq p0 p1 p2 p3 p4 q0 q1 q2 q3 q4 c0 z0 ⊢
                    clear e8
                    go_upto_region 34 with fail
                    go_cut [209] from 181 to 209 (fun v wx => v = .bool false ∧ Below w8.heap.size w8 wx)
                    case first =>
                      refine wp_region_J 29 (fun x => Below w8.heap.size w8 x) (by kernel_rfl) rfl (by kernel_rfl) ((Below.refl _ w8).drew) (fun wj hJ hs => ?_)
                      have HJ := Lib.hid hJ
                      clear hJ
                      (refine j_take 0 _ ?_ hs rfl rfl (by kernel_rfl) (by kernel_rfl) HJ.out (fun w' hw' => ?_) ?_; rotate_left; (· skip; go_simp; rfl); (go_simp))
                      (refine j_take 1 _ ?_ hs rfl rfl (by kernel_rfl) (by kernel_rfl) HJ.out (fun w' hw' => ?_) ?_; rotate_left; (· skip; go_simp; rfl); (go_simp))
                      (refine j_take 2 _ ?_ hs rfl rfl (by kernel_rfl) (by kernel_rfl) HJ.out (fun w' hw' => ?_) ?_; rotate_left; (· skip; go_simp; rfl); (go_simp))
                      (refine j_take 3 _ ?_ hs rfl rfl (by kernel_rfl) (by kernel_rfl) HJ.out (fun w' hw' => ?_) ?_; rotate_left; (· have d := (hw'.cell (p := ⟨g6, q, none⟩) z0).trans c0; go_simp; rfl); (go_simp))
                      (refine j_take 4 _ ?_ hs rfl rfl (by kernel_rfl) (by kernel_rfl) HJ.out (fun w' hw' => ?_) ?_; rotate_left; (· skip; go_simp; rfl); (go_simp))
                      (refine j_take 5 _ ?_ hs rfl rfl (by kernel_rfl) (by kernel_rfl) HJ.out (fun w' hw' => ?_) ?_; rotate_left; (· skip; go_simp; rfl); (go_simp))
                      (refine j_take2 6 _ ?_ hs rfl (by kernel_rfl) (by kernel_rfl) HJ.out ?_ (fun w' hw' => ?_) ?_; rotate_left; (· go_simp); (· skip; go_simp; rfl); (go_simp))
                      (refine j_take2 7 _ ?_ hs rfl (by kernel_rfl) (by kernel_rfl) HJ.out ?_ (fun w' hw' => ?_) ?_; rotate_left; (· go_simp); (· skip; go_simp; rfl); (go_simp))
                      (refine j_take2 8 _ ?_ hs rfl (by kernel_rfl) (by kernel_rfl) HJ.out ?_ (fun w' hw' => ?_) ?_; rotate_left; (· go_simp); (· skip; go_simp; rfl); (go_simp))
                      (refine j_take2 9 _ ?_ hs rfl (by kernel_rfl) (by kernel_rfl) HJ.out ?_ (fun w' hw' => ?_) ?_; rotate_left; (· go_simp); (· have d := (hw'.cell (p := ⟨g6, q, none⟩) z0).trans c0; go_simp; rfl); (go_simp))
                      (refine j_take2 10 _ ?_ hs rfl (by kernel_rfl) (by kernel_rfl) HJ.out ?_ (fun w' hw' => ?_) ?_; rotate_left; (· go_simp); (· skip; go_simp; rfl); (go_simp))
                      (refine j_take2 11 _ ?_ hs rfl (by kernel_rfl) (by kernel_rfl) HJ.out ?_ (fun w' hw' => ?_) ?_; rotate_left; (· go_simp); (· skip; go_simp; rfl); (go_simp))
                      (refine j_take2 12 _ ?_ hs rfl (by kernel_rfl) (by kernel_rfl) HJ.out ?_ (fun w' hw' => ?_) ?_; rotate_left; (· go_simp); (· skip; go_simp; rfl); (go_simp))
                      (refine j_take 13 _ ?_ hs rfl rfl (by kernel_rfl) (by kernel_rfl) HJ.out (fun w' hw' => ?_) ?_; rotate_left; (· skip; go_simp; rfl); (go_simp))
                      (refine j_take 14 _ ?_ hs rfl rfl (by kernel_rfl) (by kernel_rfl) HJ.out (fun w' hw' => ?_) ?_; rotate_left; (· skip; go_simp; rfl); (go_simp))
                      (refine j_take2 15 _ ?_ hs rfl (by kernel_rfl) (by kernel_rfl) HJ.out ?_ (fun w' hw' => ?_) ?_; rotate_left; (· go_simp); (· skip; go_simp; rfl); (go_simp))
                      (refine j_take2 16 _ ?_ hs rfl (by kernel_rfl) (by kernel_rfl) HJ.out ?_ (fun w' hw' => ?_) ?_; rotate_left; (· go_simp); (· skip; go_simp; rfl); (go_simp))
                      (refine j_take2 17 _ ?_ hs rfl (by kernel_rfl) (by kernel_rfl) HJ.out ?_ (fun w' hw' => ?_) ?_; rotate_left; (· go_simp); (· skip; go_simp; rfl); (go_simp))
                      (refine j_take2 18 _ ?_ hs rfl (by kernel_rfl) (by kernel_rfl) HJ.out ?_ (fun w' hw' => ?_) ?_; rotate_left; (· go_simp); (· skip; go_simp; rfl); (go_simp))
                      (refine j_take2 19 _ ?_ hs rfl (by kernel_rfl) (by kernel_rfl) HJ.out ?_ (fun w' hw' => ?_) ?_; rotate_left; (· go_simp); (· have d := (hw'.cell (p := ⟨g6, q, none⟩) z0).trans c0; go_simp; rfl); (go_simp))
                      (refine j_take2 20 _ ?_ hs rfl (by kernel_rfl) (by kernel_rfl) HJ.out ?_ (fun w' hw' => ?_) ?_; rotate_left; (· go_simp); (· skip; go_simp; rfl); (go_simp))
                      (refine j_take2 21 _ ?_ hs rfl (by kernel_rfl) (by kernel_rfl) HJ.out ?_ (fun w' hw' => ?_) ?_; rotate_left; (· go_simp); (· obtain ⟨d0, d1, d2, d3, d4⟩ := AtP.keep ⟨p0, p1, p2, p3, p4⟩ hb hw'; go_simp; rfl); (go_simp))
                      (refine j_take2 22 _ ?_ hs rfl (by kernel_rfl) (by kernel_rfl) HJ.out ?_ (fun w' hw' => ?_) ?_; rotate_left; (· go_simp); (· skip; go_simp; rfl); (go_simp))
                      (refine j_take2 23 _ ?_ hs rfl (by kernel_rfl) (by kernel_rfl) HJ.out ?_ (fun w' hw' => ?_) ?_; rotate_left; (· go_simp); (· skip; go_simp; rfl); (go_simp))
                      (refine j_take2 24 _ ?_ hs rfl (by kernel_rfl) (by kernel_rfl) HJ.out ?_ (fun w' hw' => ?_) ?_; rotate_left; (· go_simp); (· skip; go_simp; rfl); (go_simp))
                      (refine j_take2 25 _ ?_ hs rfl (by kernel_rfl) (by kernel_rfl) HJ.out ?_ (fun w' hw' => ?_) ?_; rotate_left; (· go_simp); (· obtain ⟨d0, d1, d2, d3, d4⟩ := AtP.keep ⟨q0, q1, q2, q3, q4⟩ hbq hw'; go_simp; rfl); (go_simp))
                      refine j_one 26 _ rfl (by kernel_rfl) HJ.out ?_
                      go_wp2_with fail
                      refine (CS.out _).mono ?_
                      rintro e w9 ⟨rfl, b9⟩
                      have HJ := Lib.hid (HJ.out.trans (b9.mono HJ.out.size))
                      clear b9
                      go_wp2_with fail
                      refine ⟨HJ.out, ?_⟩
                      (refine j_take2 27 _ ?_ hs rfl (by kernel_rfl) (by kernel_rfl) HJ.out ?_ (fun w' hw' => ?_) ?_; rotate_left; (· go_simp); (· skip; go_simp; rfl); (go_simp))
                      (refine j_take 28 _ ?_ hs rfl rfl (by kernel_rfl) (by kernel_rfl) HJ.out (fun w' hw' => ?_) ?_; rotate_left; (· skip; go_simp; rfl); (go_simp))
                      refine j_done (by kernel_rfl) ?_
                      go_wp2_with fail
                      go_meet
                      exact ⟨rfl, HJ.out⟩
                    case rest =>
                      obtain ⟨rfl, bb⟩ := hcut
                      have B9 := Lib.hid (B8.out.trans (bb.mono B8.out.size))
                      clear bb
                      go_wp2_with fail
                      go_roundw
                      case rel => exact ⟨q + 1, by go_num, by omega, B9.out⟩
                      case measure => simp only [intOf]; omega
                  · obtain rfl : q = j := by omega
                    have BE := Lib.hid (B7.out.trans (B8.out.mono B7.out.size))
                    clear D6 T6 S6 B7 B8
                    go_wp2_with fail
                    refine (wakes_walk _).mono ?_
                    rintro e w9 ⟨rfl, b9⟩
                    have W9 := Lib.hid (BE.out.trans (b9.mono BE.out.size))
                    clear b9
                    go_wp2_with fail
                    go_ret
                    exact ⟨rfl, W9.out⟩
end Go.Proofs.Ytdngkeefbpffcaa
