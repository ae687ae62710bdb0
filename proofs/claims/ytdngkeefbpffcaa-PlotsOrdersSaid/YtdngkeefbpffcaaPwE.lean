import Derived.Test.YtdngkeefbpffcaaPwD
set_option autoImplicit false
set_option linter.unusedVariables false
namespace Go.Proofs.Ytdngkeefbpffcaa
open Go.RowKit Lk Pl
theorem gd_get {O : List Nat} {k : Nat} (h : k < O.length) : O[k]? = some (gd O k) := by unfold gd; rw [List.getD_eq_getElem?_getD, List.getElem?_eq_getElem h]; rfl
theorem ltI_ord {l : List Pt} {i j : Nat} {p q : Pt} (hp : l[i]? = some p) (hq : l[j]? = some q) : ltI l i j = decide (ordP p q < 0) := by
  unfold ltI
  rw [List.getD_eq_getElem?_getD, hp, List.getD_eq_getElem?_getD, hq]; rfl
set_option maxRecDepth 100000 in
set_option maxHeartbeats 4000000 in
theorem rorder_walk (a : Option Addr) (n cap : Nat) (l : List Pt) (W : World) (h : Sp W a n cap l) (hn : n ≤ 1048576) :
    Calls Try.prog 21 #[.slice a n cap] W (fun e w' => ∃ v, e = .returned v ∧ w'.ownsRow W.heap.size 3 1 v n (ints (ordL (ltI l) n)) ∧ Below W.heap.size W w') := by
  have SP := Lib.hid h
  clear h
  obtain ⟨I, Z, ti, tz, ts1, ty, tk⟩ := rs_info in_info
  go_enter Try.func21, Try.ntmps21
  go_wp2_with fail
  go_loopw [3, 4] (fun v3 v4 wr => ∃ (i : Nat), v4 = .int .i64 i ∧ i ≤ n ∧ wr.ownsRow W.heap.size 3 1 v3 i (ints (ordL (ltI l) i)) ∧ Below W.heap.size W wr) (fun _ v4 _ => n - (intOf v4).toNat)
  case atStart => exact ⟨0, rfl, by omega, by rw [ord_zero]; exact World.ownsRow_nil _ _ _ _, Below.refl _ _⟩
  case round =>
    obtain ⟨i, rfl, hi, ow, hb⟩ := hrel
    obtain ⟨ao, co, rfl, c1, c2, ol, onil, ocl⟩ := int_own ow
    have OW := Lib.hid ow
    have B1 := Lib.hid hb
    have OC := Lib.hid ocl
    have ON := Lib.hid onil
    have OL := Lib.hid ol
    clear ow hb ocl onil ol
    by_cases hlt : i < n
    · have i1 : (i : Int) < (n : Int) := by omega
      obtain ⟨w1, e1⟩ : ∃ y, y = wr := ⟨_, rfl⟩
      rw [← e1] at OW B1 OC ⊢
      clear e1
      go_wp2_with fail
      go_loopw [5] (fun v5 wq => ∃ (p : Nat), v5 = .int .i64 p ∧ p ≤ i ∧ (∀ t, p ≤ t → t < i → ltI l i (gd (ordL (ltI l) i) t) = true) ∧ Below w1.heap.size w1 wq) (fun v5 _ => (intOf v5).toNat)
      case atStart => exact ⟨i, rfl, by omega, fun t t1 t2 => by omega, Below.refl _ _⟩
      case round =>
        obtain ⟨p, rfl, hp, hall, hb⟩ := hrel
        have HA := Lib.hid hall
        have B2 := Lib.hid hb
        clear hall hb
        obtain ⟨w2, e2⟩ : ∃ y, y = wr := ⟨_, rfl⟩
        rw [← e2] at B2 ⊢
        clear e2
        obtain ⟨R, hR⟩ : ∃ R, R = (decide (0 < p) && ltI l i (gd (ordL (ltI l) i) (p - 1))) := ⟨_, rfl⟩
        have HR := Lib.hid hR
        clear hR
        go_upto_region 6 with fail
        go_cut [32] from 15 to 32 (fun v wx => v = .bool R ∧ Below w2.heap.size w2 wx)
        case first =>
          rcases Nat.eq_zero_or_pos p with q0 | q0
          · subst q0
            have RB : Hid (R = false) := Lib.hid (by rw [HR.out]; rfl)
            have q0i : ¬ (0 : Int) < ((0 : Nat) : Int) := by omega
            clear HR
            refine wp_region_J 18 (fun x => Below w2.heap.size w2 x) (by kernel_rfl) rfl (by kernel_rfl) ((Below.refl _ w2).drew) (fun wj hJ hs => ?_)
            have HJ := Lib.hid hJ
            clear hJ
            (refine j_take 0 _ ?_ hs rfl rfl (by kernel_rfl) (by kernel_rfl) HJ.out (fun w' hw' => ?_) ?_; rotate_left; (· skip; go_simp; rfl); (go_simp))
            (refine j_take 1 _ ?_ hs rfl rfl (by kernel_rfl) (by kernel_rfl) HJ.out (fun w' hw' => ?_) ?_; rotate_left; (· skip; go_simp; rfl); (go_simp))
            (refine j_take 2 _ ?_ hs rfl rfl (by kernel_rfl) (by kernel_rfl) HJ.out (fun w' hw' => ?_) ?_; rotate_left; (· skip; go_simp; rfl); (go_simp))
            (refine j_skip 3 _ hs rfl (by kernel_rfl) (by kernel_rfl) HJ.out ?_ ?_; (· go_simp); (go_simp))
            (refine j_skip 4 _ hs rfl (by kernel_rfl) (by kernel_rfl) HJ.out ?_ ?_; (· go_simp); (go_simp))
            (refine j_skip 5 _ hs rfl (by kernel_rfl) (by kernel_rfl) HJ.out ?_ ?_; (· go_simp); (go_simp))
            (refine j_skip 6 _ hs rfl (by kernel_rfl) (by kernel_rfl) HJ.out ?_ ?_; (· go_simp); (go_simp))
            (refine j_skip 7 _ hs rfl (by kernel_rfl) (by kernel_rfl) HJ.out ?_ ?_; (· go_simp); (go_simp))
            (refine j_skip 8 _ hs rfl (by kernel_rfl) (by kernel_rfl) HJ.out ?_ ?_; (· go_simp); (go_simp))
            (refine j_skip 9 _ hs rfl (by kernel_rfl) (by kernel_rfl) HJ.out ?_ ?_; (· go_simp); (go_simp))
            (refine j_skip 10 _ hs rfl (by kernel_rfl) (by kernel_rfl) HJ.out ?_ ?_; (· go_simp); (go_simp))
            (refine j_skip 11 _ hs rfl (by kernel_rfl) (by kernel_rfl) HJ.out ?_ ?_; (· go_simp); (go_simp))
            (refine j_skip 12 _ hs rfl (by kernel_rfl) (by kernel_rfl) HJ.out ?_ ?_; (· go_simp); (go_simp))
            (refine j_skip 13 _ hs rfl (by kernel_rfl) (by kernel_rfl) HJ.out ?_ ?_; (· go_simp); (go_simp))
            (refine j_skip 14 _ hs rfl (by kernel_rfl) (by kernel_rfl) HJ.out ?_ ?_; (· go_simp); (go_simp))
            (refine j_skip 15 _ hs rfl (by kernel_rfl) (by kernel_rfl) HJ.out ?_ ?_; (· go_simp); (go_simp))
            (refine j_skip 16 _ hs rfl (by kernel_rfl) (by kernel_rfl) HJ.out ?_ ?_; (· go_simp); (go_simp))
            (refine j_take 17 _ ?_ hs rfl rfl (by kernel_rfl) (by kernel_rfl) HJ.out (fun w' hw' => ?_) ?_; rotate_left; (· skip; go_simp; rfl); (go_simp))
            refine j_done (by kernel_rfl) ?_
            go_wp2_with fail
            go_meet
            exact ⟨by rw [RB.out], HJ.out⟩
          · obtain ⟨m, rfl⟩ : ∃ m, p = m + 1 := ⟨p - 1, by omega⟩
            have mi : m < i := by omega
            obtain ⟨x, hx⟩ : ∃ x, (ordL (ltI l) i)[m]? = some x := ⟨_, List.getElem?_eq_getElem (by rw [OL.out]; exact mi)⟩
            have xi : x < i := (ord_ok l i).2.1 x (List.mem_of_getElem? hx)
            obtain ⟨bp, op, pp, rfl, hb, hp', ⟨p0, p1, p2, p3, p4⟩, ltp⟩ := (SP.out.keep (B1.out.trans (B2.out.mono B1.out.size))).at hlt
            obtain ⟨bq, oq, qq, eq, hbq, hq', ⟨q0, q1, q2, q3, q4⟩, ltq⟩ := (SP.out.keep (B1.out.trans (B2.out.mono B1.out.size))).at (show x < n by omega)
            obtain ⟨rfl, rfl⟩ : bp = bq ∧ op = oq := by simpa using eq
            have RB : Hid (R = decide (ordP pp qq < 0)) := Lib.hid (by rw [HR.out, Nat.add_sub_cancel, ord_get hx, ltI_ord hp' hq']; simp)
            have CA := Lib.hid (fun w => ahead_walk pp qq ltp ltq w)
            obtain ⟨ga, hga⟩ : ∃ ga, ao = some ga := by
              cases e : ao with
              | none => have := (ON.out e).1; omega
              | some g => exact ⟨g, rfl⟩
            obtain ⟨gb, o0, r0⟩ := ga
            obtain ⟨e1, e2, e3, e4⟩ := OC.out _ hga
            simp only at e1 e2 e3 e4
            cases e1
            have c0 := (B2.out.cell (p := ⟨gb, m, none⟩) e3).trans (e4 m x hx)
            have e3 := Nat.lt_of_lt_of_le e3 B2.out.size
            subst hga
            clear e4 hx eq hp' hq' ltp ltq hbq HR OC ON
            have q0i : (0 : Int) < ((m + 1 : Nat) : Int) := by omega
            have mM : (m : Int) < (i : Int) := by omega
            have mM1 : (m : Int) + 1 ≤ (i : Int) := by omega
            have xn : (x : Int) < (n : Int) := by omega
            have q00 : (0 : Int) ≤ (m : Int) + 1 := by omega
            have wz : IntKind.i64.wrap (m : Int) = (m : Int) := IntWalk.i64_in _ (by omega)
            refine wp_region_J 18 (fun x => Below w2.heap.size w2 x) (by kernel_rfl) rfl (by kernel_rfl) ((Below.refl _ w2).drew) (fun wj hJ hs => ?_)
            have HJ := Lib.hid hJ
            clear hJ
            (refine j_take 0 _ ?_ hs rfl rfl (by kernel_rfl) (by kernel_rfl) HJ.out (fun w' hw' => ?_) ?_; rotate_left; (· skip; go_simp; rfl); (go_simp))
            (refine j_take 1 _ ?_ hs rfl rfl (by kernel_rfl) (by kernel_rfl) HJ.out (fun w' hw' => ?_) ?_; rotate_left; (· skip; go_simp; rfl); (go_simp))
            (refine j_take 2 _ ?_ hs rfl rfl (by kernel_rfl) (by kernel_rfl) HJ.out (fun w' hw' => ?_) ?_; rotate_left; (· skip; go_simp; rfl); (go_simp))
            (refine j_take2 3 _ ?_ hs rfl (by kernel_rfl) (by kernel_rfl) HJ.out ?_ (fun w' hw' => ?_) ?_; rotate_left; (· go_simp); (· skip; go_simp; rfl); (go_simp))
            (refine j_take2 4 _ ?_ hs rfl (by kernel_rfl) (by kernel_rfl) HJ.out ?_ (fun w' hw' => ?_) ?_; rotate_left; (· go_simp); (· skip; go_simp; rfl); (go_simp))
            (refine j_take2 5 _ ?_ hs rfl (by kernel_rfl) (by kernel_rfl) HJ.out ?_ (fun w' hw' => ?_) ?_; rotate_left; (· go_simp); (· skip; go_simp; rfl); (go_simp))
            (refine j_take2 6 _ ?_ hs rfl (by kernel_rfl) (by kernel_rfl) HJ.out ?_ (fun w' hw' => ?_) ?_; rotate_left; (· go_simp); (· obtain ⟨d0, d1, d2, d3, d4⟩ := AtP.keep ⟨p0, p1, p2, p3, p4⟩ hb hw'; go_simp; rfl); (go_simp))
            (refine j_take2 7 _ ?_ hs rfl (by kernel_rfl) (by kernel_rfl) HJ.out ?_ (fun w' hw' => ?_) ?_; rotate_left; (· go_simp); (· skip; go_simp; rfl); (go_simp))
            (refine j_take2 8 _ ?_ hs rfl (by kernel_rfl) (by kernel_rfl) HJ.out ?_ (fun w' hw' => ?_) ?_; rotate_left; (· go_simp); (· skip; go_simp; rfl); (go_simp))
            (refine j_take2 9 _ ?_ hs rfl (by kernel_rfl) (by kernel_rfl) HJ.out ?_ (fun w' hw' => ?_) ?_; rotate_left; (· go_simp); (· skip; go_simp; rfl); (go_simp))
            (refine j_take2 10 _ ?_ hs rfl (by kernel_rfl) (by kernel_rfl) HJ.out ?_ (fun w' hw' => ?_) ?_; rotate_left; (· go_simp); (· skip; go_simp; rfl); (go_simp))
            (refine j_take2 11 _ ?_ hs rfl (by kernel_rfl) (by kernel_rfl) HJ.out ?_ (fun w' hw' => ?_) ?_; rotate_left; (· go_simp); (· skip; go_simp; rfl); (go_simp))
            (refine j_take2 12 _ ?_ hs rfl (by kernel_rfl) (by kernel_rfl) HJ.out ?_ (fun w' hw' => ?_) ?_; rotate_left; (· go_simp); (· have d := (hw'.cell (p := ⟨gb, m, none⟩) e3).trans c0; go_simp; rfl); (go_simp))
            (refine j_take2 13 _ ?_ hs rfl (by kernel_rfl) (by kernel_rfl) HJ.out ?_ (fun w' hw' => ?_) ?_; rotate_left; (· go_simp); (· skip; go_simp; rfl); (go_simp))
            (refine j_take2 14 _ ?_ hs rfl (by kernel_rfl) (by kernel_rfl) HJ.out ?_ (fun w' hw' => ?_) ?_; rotate_left; (· go_simp); (· obtain ⟨d0, d1, d2, d3, d4⟩ := AtP.keep ⟨q0, q1, q2, q3, q4⟩ hb hw'; go_simp; rfl); (go_simp))
            refine j_one 15 _ rfl (by kernel_rfl) HJ.out ?_
            go_wp2_with fail
            refine (CA.out _).mono ?_
            rintro e w9 ⟨rfl, b9⟩
            have HJ := Lib.hid (HJ.out.trans (b9.mono HJ.out.size))
            clear b9
            go_wp2_with fail
            refine ⟨HJ.out, ?_⟩
            generalize hc : ordP pp qq = C at RB ⊢
            clear hc
            (refine j_take2 16 _ ?_ hs rfl (by kernel_rfl) (by kernel_rfl) HJ.out ?_ (fun w' hw' => ?_) ?_; rotate_left; (· go_simp); (· skip; go_simp; rfl); (go_simp))
            (refine j_take 17 _ ?_ hs rfl rfl (by kernel_rfl) (by kernel_rfl) HJ.out (fun w' hw' => ?_) ?_; rotate_left; (· skip; go_simp; rfl); (go_simp))
            refine j_done (by kernel_rfl) ?_
            go_wp2_with fail
            go_meet
            exact ⟨by rw [RB.out], HJ.out⟩
        case rest =>
          obtain ⟨rfl, bb⟩ := hcut
          have B3 := Lib.hid (B2.out.trans (bb.mono B2.out.size))
          clear bb B2
          cases R with
          | true =>
            have hr := HR.out.symm
            rw [Bool.and_eq_true, decide_eq_true_eq] at hr
            obtain ⟨m, rfl⟩ : ∃ m, p = m + 1 := ⟨p - 1, by omega⟩
            have H1 := Lib.hid hr.2
            have wz : IntKind.i64.wrap (m : Int) = (m : Int) := IntWalk.i64_in _ (by omega)
            clear hr HR OC ON OW OL
            go_wp2_with fail
            go_roundw
            case rel => exact ⟨m, by go_num, by omega, fun t t1 t2 => by
              by_cases e : t = m
              · rw [e]; exact H1.out
              · exact HA.out t (by omega) t2, B3.out⟩
            case measure => simp only [intOf]; omega
          | false =>
            have EO : Hid (insAt (ordL (ltI l) i) p i = ordL (ltI l) (i + 1)) := Lib.hid (ord_ins (ltI_wo l) hp HA.out (fun t ht => by
              have hr := HR.out
              rw [ht, Nat.add_sub_cancel, decide_eq_true (by omega), Bool.true_and] at hr
              exact hr.symm))
            have s1 := run_front ao i co p hp c1 c2 ON.out (fun g hg => (OC.out g hg).1)
            obtain ⟨a2, z1, z2, s2⟩ := run_back ao i co p hp c1 c2 ON.out (fun g hg => (OC.out g hg).1)
            have hn1 : ao = none → p = 0 ∧ co = 0 := fun e => by have := ON.out e; omega
            have hl1 : (ints ((ordL (ltI l) i).take p)).length = p * 1 := by rw [ints_len, List.length_take, OL.out]; omega
            have hl2 : (ints ((ordL (ltI l) i).drop p)).length = (i - p) * 1 := by rw [ints_len, List.length_drop, OL.out]; omega
            have F1 : Hid (∀ w', Below wc.heap.size wc w' → ∀ b, ao = some b → ∀ j u, (ints ((ordL (ltI l) i).take p))[j]? = some u → w'.cell? (b.add j) = some u) := Lib.hid (fun w' hw' b hb j u hu => by
              obtain ⟨e1, e2, e3, e4⟩ := OC.out b hb
              obtain ⟨gb, o0, r0⟩ := b
              simp only at e1 e2 e3 e4
              cases e1
              unfold ints at hu
              rw [List.getElem?_map, Option.map_eq_some_iff] at hu
              obtain ⟨x, hx, rfl⟩ := hu
              rw [List.getElem?_take] at hx
              split at hx
              · rw [Addr.add_lit, Nat.zero_add]
                have z := B3.out.size
                exact (hw'.cell (p := ⟨gb, j, none⟩) (by simp only; omega)).trans ((B3.out.cell (p := ⟨gb, j, none⟩) e3).trans (e4 j x hx))
              · cases hx)
            have F2 : Hid (∀ w', Below wc.heap.size wc w' → ∀ b, a2 = some b → ∀ j u, (ints ((ordL (ltI l) i).drop p))[j]? = some u → w'.cell? (b.add j) = some u) := Lib.hid (fun w' hw' b hb j u hu => by
              obtain ⟨g0, hg0, hb0, hb1⟩ := z2 b hb
              obtain ⟨e1, e2, e3, e4⟩ := OC.out g0 hg0
              obtain ⟨gb, o0, r0⟩ := g0
              simp only at e1 e2 e3 e4 hb0
              unfold ints at hu
              rw [List.getElem?_map, Option.map_eq_some_iff] at hu
              obtain ⟨x, hx, rfl⟩ := hu
              rw [List.getElem?_drop] at hx
              have hxl := (List.getElem?_eq_some_iff.1 hx).1
              rw [OL.out] at hxl
              have hbo : b.off = p := by omega
              rw [hb0, hbo, Addr.add_lit]
              have z := B3.out.size
              exact (hw'.cell (p := ⟨gb, p + j, none⟩) (by simp only; omega)).trans ((B3.out.cell (p := ⟨gb, p + j, none⟩) e3).trans (e4 _ x hx)))
            clear OC ON HR HA z2
            go_wp2_with (first
              | (refine wpList_append_any rfl (.tmp 35) (.tmp 38) 48 rfl wc.heap.size 3 I Z 1 8 Try.undI ti tz ts1 ty tk (by decide) (.slice none 0 0) 0 [] rfl (World.ownsRow_nil _ _ _ _) ao p co (ints ((ordL (ltI l) i).take p)) rfl hn1 hl1 (F1.out _ (Below.refl _ _)) (ints_one _) (by simp only [maxLen]; omega) (by omega) (Nat.le_refl _) ?_; intro v6 w6 ow gr _; have X6 := Lib.hid ow; have B6 := Lib.hid (rs_grown (Below.refl _ wc) gr (World.ownsRow_nil wc wc.heap.size 3 1) (Nat.le_refl _)); clear ow gr)
              | (refine wpList_append_any rfl (.tmp 40) (.tmp 42) 48 rfl wc.heap.size 3 I Z 1 8 Try.undI ti tz ts1 ty tk (by decide) v6 (0 + p) ([] ++ ints ((ordL (ltI l) i).take p)) rfl (X6.out.alloc _) (some ⟨w6.heap.size, 0, none⟩) 1 1 [.int .i64 (i : Int)] rfl (fun e => by (cases e)) rfl (fun b hb => by (cases hb; exact cell_one_new w6 _ _)) (by simp [Value.oneCell']) (by simp only [maxLen]; omega) (by omega) (by have := B6.out.size; simp; omega) ?_; intro v7 w7 ow gr _; have X7 := Lib.hid ow; have B7 := Lib.hid (rs_grown (B6.out.alloc B6.out.size _) gr (X6.out.alloc _) (by have := B6.out.size; simp; omega)); clear ow gr)
              | (refine wpList_append_any rfl (.tmp 44) (.tmp 47) 48 rfl wc.heap.size 3 I Z 1 8 Try.undI ti tz ts1 ty tk (by decide) v7 (0 + p + 1) (([] ++ ints ((ordL (ltI l) i).take p)) ++ [.int .i64 (i : Int)]) rfl X7.out a2 (i - p) (co - p) (ints ((ordL (ltI l) i).drop p)) rfl z1 hl2 (F2.out _ B7.out) (ints_one _) (by simp only [maxLen]; omega) (by omega) B7.out.size ?_; intro v8 w8 ow gr _; have X8 := Lib.hid ow; have B8 := Lib.hid (rs_grown B7.out gr X7.out B7.out.size); clear ow gr))
            have X9 : Hid (w8.ownsRow W.heap.size 3 1 v8 (i + 1) (ints (ordL (ltI l) (i + 1)))) := Lib.hid (by
              rw [← EO.out]
              have e1 : 0 + p + 1 + (i - p) = i + 1 := by omega
              have q := X8.out
              rw [e1] at q
              have e2 : [] ++ ints ((ordL (ltI l) i).take p) ++ [.int .i64 (i : Int)] ++ ints ((ordL (ltI l) i).drop p) = ints (insAt (ordL (ltI l) i) p i) := by unfold ints insAt; simp
              rw [e2] at q
              exact row_low q (Nat.le_trans B1.out.size B3.out.size))
            have B9 := Lib.hid (B1.out.trans ((B3.out.trans (B8.out.mono B3.out.size)).mono B1.out.size))
            clear X8 X7 X6 B8 B7 B6 EO F1 F2 s1 s2
            go_roundw
            case rel => exact ⟨i + 1, by go_num, by omega, X9.out, B9.out⟩
            case measure => simp only [intOf]; omega
    · obtain rfl : i = n := by omega
      go_wp2_with fail
      go_ret
      exact ⟨_, rfl, OW.out, B1.out⟩
end Go.Proofs.Ytdngkeefbpffcaa
