import Derived.Test.YtdngkeefbpffcaaRsR
import Derived.WalkMore
set_option autoImplicit false
set_option linter.unusedVariables false
namespace Go.Proofs.Ytdngkeefbpffcaa
open Go.RowKit Lk Rs
/-- what Resolve hands back -/
def ResP (B : List Bt) (LL : List (List Int)) (off most : Int) (w : World) (e : Ending) (w' : World) : Prop :=
  ∃ v, e = .returned (.tuple #[v, .int .i64 (resW B LL off most).2]) ∧ w'.ownsRow w.heap.size 2 1 v (resW B LL off most).1.length (rints (resW B LL off most).1) ∧ Below w.heap.size w w'
theorem resP_no {B : List Bt} {LL : List (List Int)} {off most x : Int} {w w' : World} (h : resW B LL off most = ([], x)) (b : Below w.heap.size w w') : ResP B LL off most w (.returned (.tuple #[.slice none 0 0, .int .i64 x])) w' :=
  ⟨_, ret2v' (by rw [h]), owns_nil2 (by rw [h]), b⟩
theorem mkT_hit {B : List Bt} {LL : List (List Int)} {off : Int} {T : List Mk3} {x : Nat} (h : mkT B LL off T (min B.length LL.length)) (hE : ∀ t ∈ T, 1 ≤ t.E) : hitR B LL off x = T.all fun t => t.f (x % t.E) := by
  obtain ⟨hl, hj⟩ := h
  unfold hitR
  rw [Bool.eq_iff_iff, List.all_eq_true, List.all_eq_true]
  constructor
  · intro h1 t ht
    obtain ⟨j, hjl, rfl⟩ := List.mem_iff_getElem.1 ht
    have jb : j < B.length := by omega
    have jc : j < LL.length := by omega
    obtain ⟨e1, e2⟩ := hj j _ _ _ (List.getElem?_eq_getElem hjl) (List.getElem?_eq_getElem jb) (List.getElem?_eq_getElem jc)
    have e0 := hE _ (List.getElem_mem hjl)
    rw [e2 _ (Nat.mod_lt _ (by omega))]
    have := h1 (B[j], LL[j]) (by rw [List.mem_iff_getElem]; exact ⟨j, by simp; omega, by simp⟩)
    rw [e1]; exact this
  · intro h1 p hp
    obtain ⟨j, hjl, rfl⟩ := List.mem_iff_getElem.1 hp
    simp only [List.length_zip] at hjl
    have jT : j < T.length := by omega
    obtain ⟨e1, e2⟩ := hj j _ _ _ (List.getElem?_eq_getElem jT) (List.getElem?_eq_getElem (by omega)) (List.getElem?_eq_getElem (by omega))
    have e0 := hE _ (List.getElem_mem jT)
    have h2 := h1 _ (List.getElem_mem jT)
    rw [e2 _ (Nat.mod_lt _ (by omega)), e1] at h2
    simpa using h2
/-- what the loop over the beats reads of its own copy of one -/
structure JB (g : Nat) (e : Int) (w x : World) : Prop where
  b : Below w.heap.size w x
  c3 : x.cell? ⟨g, 3, none⟩ = some (.int .i64 e)
  lt : g < x.heap.size
theorem JB.drew {g : Nat} {e : Int} {w x : World} (h : JB g e w x) : JB g e w { x with drawn := x.drawn + 1 } := ⟨h.b.drew, h.c3, h.lt⟩
theorem JB.below {g : Nat} {e : Int} {w x y : World} (h : JB g e w x) (b : Below x.heap.size x y) : JB g e w y := ⟨h.b.trans (b.mono h.b.size), (b.cell (p := ⟨g, 3, none⟩) h.lt).trans h.c3, Nat.lt_of_lt_of_le h.lt b.size⟩
theorem JB.grown {g : Nat} {e : Int} {w x y : World} {o : Option Nat} (h : JB g e w x) (gr : x.grownBy y o) (ho : o ≠ some g) (hb : Below w.heap.size w y) : JB g e w y := by
  have q : y.heap[g]? = x.heap[g]? := gr.block g h.lt fun e => ho e.symm
  exact ⟨hb, by have := h.c3; unfold World.cell? at this ⊢; rw [q]; exact this, Nat.lt_of_lt_of_le h.lt gr.size⟩
theorem sl_cells {w : World} {g : Nat} {t : Mk3} {ty : TypeId} (h : w.heap[g]? = some (.cells #[mval t] ty (0, 0))) : ∀ (j : Nat) (u : Value), [mval t][j]? = some u → w.cell? ((⟨g, 0, none⟩ : Addr).add j) = some u := by
  intro j u hu
  rw [Addr.add_lit]
  simp only [World.cell?, h, Nat.zero_add]
  simpa using hu
theorem sl_one (t : Mk3) : ∀ u ∈ [mval t], u.oneCell' = true := by
  intro u hu
  rw [List.mem_singleton] at hu
  subst hu; rfl
theorem i_cells {w : World} {g : Nat} {x : Int} {ty : TypeId} (h : w.heap[g]? = some (.cells #[.int .i64 x] ty (0, 0))) : ∀ (j : Nat) (u : Value), [Value.int .i64 x][j]? = some u → w.cell? ((⟨g, 0, none⟩ : Addr).add j) = some u := by
  intro j u hu
  rw [Addr.add_lit]
  simp only [World.cell?, h, Nat.zero_add]
  simpa using hu
theorem i_one (x : Int) : ∀ u ∈ [Value.int .i64 x], u.oneCell' = true := by
  intro u hu
  rw [List.mem_singleton] at hu
  subst hu; rfl
theorem rs_low {w : World} {B B' t c n : Nat} {v : Value} {xs : List Value} (h : w.ownsRow B' t c v n xs) (hB : B ≤ B') : w.ownsRow B t c v n xs := by
  rcases h with ⟨h0, h1 | ⟨g, cap, cur, rfl, h2, h3⟩⟩
  · exact ⟨h0, .inl h1⟩
  · exact ⟨h0, .inr ⟨g, cap, cur, rfl, Nat.le_trans hB h2, h3⟩⟩
structure ResA (B : List Bt) (LL : List (List Int)) (off : Int) (w wr : World) (v : Value) (T : List Mk3) (k : Nat) : Prop where
  m : MKs w wr v T
  t : mkT B LL off T k
  e : ∀ t ∈ T, 1 ≤ t.E
set_option maxRecDepth 100000 in
set_option maxHeartbeats 4000000 in
theorem resolve_walk (aB : Option Addr) (nB cB : Nat) (B : List Bt) (aC : Option Addr) (nC cC : Nat) (LL : List (List Int)) (off most : Int) (w : World) (hB : SBt w aB nB cB B) (hC : SC w aC nC cC LL) :
    Calls Try.prog 16 #[.slice aB nB cB, .slice aC nC cC, .int .i64 off, .int .i64 most] w (ResP B LL off most w) := by
  obtain ⟨I1, Z1, hi1, hz1, hs1, hy1, hk1⟩ := rs_info rs_sl_info
  obtain ⟨I2, Z2, hi2, hz2, hs2, hy2, hk2⟩ := rs_info rs_int_info
  obtain ⟨N, hN⟩ : ∃ N, N = min nB nC := ⟨_, rfl⟩
  have W : Hid (resW B LL off most = if 8 < N then ([], 3) else if longC (LL.take N) then ([], 3) else if firstE (B.take N) ≠ 0 then ([], firstE (B.take N)) else if off < 0 ∨ most < 0 then ([], 2) else if 1048576 < most then ([], 3) else if 65536 < (resL (hitR B LL off) most.toNat).length then ([], 3) else (resL (hitR B LL off) most.toNat, 0)) := Lib.hid (by rw [hN, ← hB.len, ← hC.len]; rfl)
  have NL : Hid (N = min B.length LL.length) := Lib.hid (by rw [hN, hB.len, hC.len])
  have b1 := hB.le
  have b2 := hB.small
  have c1 := hC.le
  have c2 := hC.small
  have HB := Lib.hid hB
  have HC := Lib.hid hC
  have TB := Lib.hid (hB.take (m := N) (by omega))
  have TC := Lib.hid (hC.take (m := N) (by omega))
  have nb : N ≤ nB := by omega
  have nc : N ≤ nC := by omega
  have cut1 : ∀ w : World, (Instr.slice 36 (.slice aC nC cC) none (some (.int .i64 (N : Int))) none).run Try.prog w = .ok (.slice aC N cC) w := fun w => run_cut Try.undCC (sz := 1) (fun _ => by kernel_rfl) aC nC cC N (by omega) (by omega) w
  have cut2 : ∀ w : World, (Instr.slice 35 (.slice aB nB cB) none (some (.int .i64 (N : Int))) none).run Try.prog w = .ok (.slice aB N cB) w := fun w => run_cut Try.undBt (sz := 5) (fun _ => by kernel_rfl) aB nB cB N (by omega) (by omega) w
  have hmin : Hid ((nB ≤ nC → (nB : Int) = (N : Int)) ∧ (¬ nB ≤ nC → (nC : Int) = (N : Int))) := Lib.hid (by omega)
  clear hB hC hN
  go_enter Try.func16, Try.ntmps16
  go_wp2_with fail
  go_step3
  go_upto_region 1 with fail
  go_cut [10] (fun s10 wx => s10 = .int .i64 (N : Int) ∧ wx = w)
  case first =>
    by_cases g : nB ≤ nC
    · have gi : (nB : Int) ≤ (nC : Int) := by omega
      go_wp2_with fail
      go_meet
      exact ⟨by rw [hmin.out.1 g], rfl⟩
    · have gi : ¬ (nB : Int) ≤ (nC : Int) := by omega
      go_wp2_with fail
      go_meet
      exact ⟨by rw [hmin.out.2 g], rfl⟩
  case rest =>
  obtain ⟨rfl, rfl⟩ := hcut
  clear hmin
  by_cases g8 : 8 < N
  · have g8i : (8 : Int) < (N : Int) := by omega
    have E : Hid (resW B LL off most = ([], 3)) := Lib.hid (by rw [W.out, if_pos g8])
    go_wp2_with fail
    try rw [Exit.noGoto_ret]
    go_ret2
    exact resP_no E.out (Below.refl _ _)
  have g8i : ¬ (8 : Int) < (N : Int) := by omega
  go_wp2_with fail
  refine (contains_walk aC N cC (LL.take N) _ TC.out).mono ?_
  rintro e w1 ⟨rfl, bb1⟩
  have B1 := Lib.hid bb1
  clear bb1
  cases hl : longC (LL.take N) with
  | true =>
    have E : Hid (resW B LL off most = ([], 3)) := Lib.hid (by rw [W.out, if_neg g8, if_pos hl])
    go_wp2_with fail
    try rw [Exit.noGoto_ret]
    go_ret2
    exact resP_no E.out B1.out
  | false =>
  have HL := Lib.hid hl
  clear hl
  go_wp2_with fail
  go_loopw [38] (fun i wr => ∃ k : Nat, i = .int .i64 k ∧ k ≤ N ∧ firstE (B.take k) = 0 ∧ Below wc.heap.size wc wr) (fun i _ => N - (intOf i).toNat)
  case atStart => exact ⟨0, rfl, by omega, rfl, B1.out⟩
  case round =>
    obtain ⟨k, rfl, hk, hf, bb⟩ := hrel
    have HF := Lib.hid hf
    have BB := Lib.hid bb
    clear hf bb
    by_cases hlt : k < N
    · obtain ⟨b, of, t, rfl, hb, hx, A, ok⟩ := (TB.out.keep BB.out).at hlt
      have hx2 : B[k]? = some t := by rw [List.getElem?_take, if_pos hlt] at hx; exact hx
      have F1 := Lib.hid (firstE_succ hx2 HF.out)
      have c0 := A.c0
      have c1 := A.c1
      have c2 := A.c2
      have c3 := A.c3
      have c4 := A.c4
      have OK := Lib.hid ok
      clear A hx hx2 ok
      go_wp2_with fail
      refine (check_walk t.c t.v t.r t.e t.n _ OK.out.e1 OK.out.e2 OK.out.n1 OK.out.n2).mono ?_
      rintro e w2 ⟨rfl, b2⟩
      have B2 := Lib.hid (BB.out.trans ((((Below.refl wr.heap.size wr).alloc (Nat.le_refl _) (.cells #[.float .f64 t.c, .float .f64 t.v, .float .f64 t.r, .int .i64 t.e, .int .i64 t.n] 24)).trans (b2.mono (by simp))).mono BB.out.size))
      obtain ⟨x, hx⟩ : ∃ x, x = chk t.c t.v t.r t.e t.n := ⟨_, rfl⟩
      rw [← hx]
      have HX : Hid (x = chkB t) := Lib.hid hx
      clear b2 c0 c1 c2 c3 c4 hx
      by_cases h0 : x = 0
      · have F2 : Hid (firstE (B.take (k + 1)) = 0) := Lib.hid (by rw [F1.out, ← HX.out]; exact h0)
        subst h0
        go_wp2_with fail
        go_roundw
        case rel => exact ⟨k + 1, by go_num, by omega, F2.out, B2.out⟩
        case measure => simp only [intOf]; omega
      · have F2 : Hid (firstE (B.take N) = x) := Lib.hid (by
          have h1 := firstE_stop (L := B.take N) (k := k + 1) (by rw [List.take_take, show min (k + 1) N = k + 1 by omega, F1.out, ← HX.out]; exact h0)
          rw [h1, List.take_take, show min (k + 1) N = k + 1 by omega, F1.out, HX.out])
        have E : Hid (resW B LL off most = ([], x)) := Lib.hid (by rw [W.out, if_neg g8, if_neg (by rw [HL.out]; simp), if_pos (by rw [F2.out]; exact h0), F2.out])
        have h0b : (x == 0) = false := by rw [beq_eq_false_iff_ne]; exact h0
        go_wp2_with fail
        try rw [Exit.noGoto_ret]
        go_ret2
        exact resP_no E.out B2.out
    · obtain rfl : k = N := by omega
      have W2 : Hid (resW B LL off most = if off < 0 ∨ most < 0 then ([], 2) else if 1048576 < most then ([], 3) else if 65536 < (resL (hitR B LL off) most.toNat).length then ([], 3) else (resL (hitR B LL off) most.toNat, 0)) := Lib.hid (by rw [W.out, if_neg g8, if_neg (by rw [HL.out]; simp), if_neg (by rw [HF.out]; simp)])
      have CK := Lib.hid (firstE_ok HF.out)
      clear W HL HF B1
      by_cases g1 : off < 0
      · have E : Hid (resW B LL off most = ([], 2)) := Lib.hid (by rw [W2.out, if_pos (.inl g1)])
        go_wp2_with fail
        try rw [Exit.noGoto_ret]
        go_ret2
        exact resP_no E.out BB.out
      by_cases g2 : most < 0
      · have E : Hid (resW B LL off most = ([], 2)) := Lib.hid (by rw [W2.out, if_pos (.inr g2)])
        go_wp2_with fail
        try rw [Exit.noGoto_ret]
        go_ret2
        exact resP_no E.out BB.out
      by_cases g3 : 1048576 < most
      · have E : Hid (resW B LL off most = ([], 3)) := Lib.hid (by rw [W2.out, if_neg (by omega), if_pos g3])
        go_wp2_with fail
        try rw [Exit.noGoto_ret]
        go_ret2
        exact resP_no E.out BB.out
      have W3 : Hid (resW B LL off most = if 65536 < (resL (hitR B LL off) most.toNat).length then ([], 3) else (resL (hitR B LL off) most.toNat, 0)) := Lib.hid (by rw [W2.out, if_neg (by omega), if_neg g3])
      have BB3 := Lib.hid BB.out
      clear W2 BB
      go_wp2_with fail
      go_loopw [14, 62] (fun v i wr => ∃ (j : Nat) (T : List Mk3), i = .int .i64 j ∧ j ≤ k ∧ ResA B LL off wc wr v T j) (fun _ i _ => k - (intOf i).toNat)
      case atStart => exact ⟨0, [], rfl, by omega, ⟨⟨BB3.out, World.ownsRow_nil _ _ _ _, fun t ht => by cases ht⟩, ⟨rfl, fun j t b C h => by simp at h⟩, fun t ht => by cases ht⟩⟩
      case round =>
        obtain ⟨j, T, rfl, hj, R⟩ := hrel
        have HR := Lib.hid R
        clear R BB3
        by_cases hjk : j < k
        · obtain ⟨b, of, t, rfl, hb, hx, A, ok⟩ := (TB.out.keep HR.out.m.b).at hjk
          have hx2 : B[j]? = some t := by rw [List.getElem?_take, if_pos hjk] at hx; exact hx
          have ck := chk_zero (CK.out t (List.mem_of_getElem? hx))
          obtain ⟨bc, oc, C, a', c', rfl, hbc, hxc, cc0, sn⟩ := HC.out.at (show j < nC by omega)
          have HX := Lib.hid hx2
          have HXC := Lib.hid hxc
          have SN := Lib.hid sn
          have CC := Lib.hid cc0
          have HBC := Lib.hid hbc
          have d0 := A.c0
          have d1 := A.c1
          have d2 := A.c2
          have d3 := A.c3
          have d4 := A.c4
          obtain ⟨E, hE⟩ : ∃ E : Nat, t.e = (E : Int) := ⟨t.e.toNat, by omega⟩
          rw [hE] at d3 ck
          have HE := Lib.hid hE
          have E1 : 1 ≤ E ∧ E ≤ 16384 := by omega
          have jC : j < nC := by omega
          have mono := Below.refl wr.heap.size wr
          have al := mono.alloc (Nat.le_refl _) (.cells #[.float .f64 t.c, .float .f64 t.v, .float .f64 t.r, .int .i64 E, .int .i64 t.n] 24)
          have J0 : Hid (JB wr.heap.size E wc (wr.alloc (.cells #[.float .f64 t.c, .float .f64 t.v, .float .f64 t.r, .int .i64 E, .int .i64 t.n] 24))) := Lib.hid ⟨HR.out.m.b.trans (al.mono HR.out.m.b.size), mcell (Deep.blk_alloc_new wr _) 3, by simp⟩
          have AL := Lib.hid al
          clear A hx hx2 ok hxc sn cc0 hbc hE al mono
          go_wp2_with fail
          refine wp_region_J1 12 (fun x => JB wr.heap.size E wc x) (by kernel_rfl) rfl (by kernel_rfl) J0.out.drew (fun w4 hb4 hJ hs => ?_)
          have HJ := Lib.hid hJ
          have B4 := Lib.hid (AL.out.trans (hb4.mono (by simp)))
          obtain ⟨gz, hgz⟩ : ∃ gz, gz = wr.heap.size := ⟨_, rfl⟩
          have M4 := Lib.hid (HR.out.m.below B4.out)
          have VG : Hid (u14.ownBlock ≠ some gz) := Lib.hid (fun e => by have := (HR.out.m.own.lt gz e).2; omega)
          rw [← hgz] at HJ
          have HGZ := Lib.hid hgz
          clear hb4 hJ J0 AL d0 d1 d2 d3 d4 hgz
          rw [← HGZ.out]
          (refine j_take 0 _ ?_ hs rfl rfl (by kernel_rfl) (by kernel_rfl) HJ.out (fun w' hw' => ?_) ?_; rotate_left; (· skip; go_simp; rfl); (go_simp))
          (refine j_take 1 _ ?_ hs rfl rfl (by kernel_rfl) (by kernel_rfl) HJ.out (fun w' hw' => ?_) ?_; rotate_left; (· skip; go_simp; rfl); (go_simp))
          (refine j_take 2 _ ?_ hs rfl rfl (by kernel_rfl) (by kernel_rfl) HJ.out (fun w' hw' => ?_) ?_; rotate_left; (· have d := hw'.c3; go_simp; rfl); (go_simp))
          (refine j_take 3 _ ?_ hs rfl rfl (by kernel_rfl) (by kernel_rfl) HJ.out (fun w' hw' => ?_) ?_; rotate_left; (· skip; go_simp; rfl); (go_simp))
          (refine j_take 4 _ ?_ hs rfl rfl (by kernel_rfl) (by kernel_rfl) HJ.out (fun w' hw' => ?_) ?_; rotate_left; (· skip; go_simp; rfl); (go_simp))
          (refine j_take 5 _ ?_ hs rfl rfl (by kernel_rfl) (by kernel_rfl) HJ.out (fun w' hw' => ?_) ?_; rotate_left; (· skip; go_simp; rfl); (go_simp))
          (refine j_take 6 _ ?_ hs rfl rfl (by kernel_rfl) (by kernel_rfl) HJ.out (fun w' hw' => ?_) ?_; rotate_left; (· have d := (hw'.b.cell (p := ⟨bc, oc + j, none⟩) HBC.out).trans CC.out; go_simp; rfl); (go_simp))
          (refine j_take 7 _ ?_ hs rfl rfl (by kernel_rfl) (by kernel_rfl) HJ.out (fun w' hw' => ?_) ?_; rotate_left; (· skip; go_simp; rfl); (go_simp))
          refine j_one 8 _ rfl (by kernel_rfl) HJ.out ?_
          go_wp2_with fail
          refine (marked_walk a' C.length c' C E (by omega) (by omega) off (by omega) w4 (SN.out.keep HJ.out.b)).mono ?_
          rintro e w5 ⟨g, rfl, mb⟩
          have J5 := Lib.hid (HJ.out.below mb.b)
          have MB5 : Hid (MBk w5 ⟨g, E, mk E (min off E) C⟩) := Lib.hid ⟨mb.cl⟩
          have G5 := Lib.hid (show wr.heap.size ≤ g by have := mb.g0; have := B4.out.size; omega)
          have B5 := Lib.hid (B4.out.trans (mb.b.mono B4.out.size))
          have M5 := Lib.hid (M4.out.below mb.b)
          clear mb HJ M4
          go_wp2_with fail
          refine ⟨J5.out, ?_⟩
          refine j_one 9 _ rfl (by kernel_rfl) J5.out ?_
          go_wp2_with fail
          have J6 := Lib.hid (J5.out.below ((Below.refl w5.heap.size w5).alloc (Nat.le_refl _) (.cells #[.slice (some ⟨g, 0, none⟩) E E] 67)))
          refine ⟨J6.out, ?_⟩
          refine j_one 10 _ rfl (by kernel_rfl) J6.out ?_
          have tl : T.length = j := HR.out.t.1
          have zb : wc.heap.size ≤ w5.heap.size := J5.out.b.size
          refine wpList_append_own_at _ rfl (.tmp 67) (.tmp 76) 66 rfl wc.heap.size 67 I1 Z1 1 24 Try.undMM hi1 hz1 hs1 hy1 hk1 (by decide) u14 T.length (T.map mval) rfl (M5.out.own.alloc _) ⟨w5.heap.size, 0, none⟩ 1 1 [mval ⟨g, E, mk E (min off E) C⟩] rfl rfl (sl_cells (by exact Deep.blk_alloc_new w5 _)) (sl_one _) (by simp only [maxLen]; omega) (by omega) (by simp; omega) ?_
          clear tl zb
          intro v6 w6 ow gr _ hat
          have NX := Lib.hid (HR.out.m.next B5.out G5.out MB5.out gr hat ow)
          have J7 := Lib.hid (J6.out.grown gr VG.out NX.out.b)
          clear ow gr hat
          go_wp2_with fail
          refine ⟨J7.out, ?_⟩
          refine j_one 11 _ rfl (by kernel_rfl) J7.out ?_
          go_wp2_with fail
          refine ⟨J7.out, j_done (by kernel_rfl) ?_⟩
          go_wp2_with fail
          go_roundw
          case rel => exact ⟨j + 1, T ++ [⟨g, E, mk E (min off E) C⟩], by go_num, by omega, ⟨NX.out, ⟨by rw [List.length_append, HR.out.t.1]; rfl, fun i t' b' C' h1 h2 h3 => by
              by_cases e : i < T.length
              · rw [List.getElem?_append_left e] at h1
                exact HR.out.t.2 i t' b' C' h1 h2 h3
              · have hl := HR.out.t.1
                rw [List.getElem?_append_right (by omega)] at h1
                have ei : i = j := by
                  have := (List.getElem?_eq_some_iff.1 h1).1
                  simp only [List.length_cons, List.length_nil] at this
                  omega
                subst ei
                rw [hl, Nat.sub_self] at h1
                simp only [List.getElem?_cons_zero, Option.some.injEq] at h1
                subst h1
                rw [HX.out] at h2; rw [HXC.out] at h3
                cases h2; cases h3
                rw [HE.out]
                exact ⟨by simp, fun x hx => by simp⟩⟩, fun t' ht' => by
              rcases List.mem_append.1 ht' with h | h
              · exact HR.out.e t' h
              · rw [List.mem_singleton] at h; subst h; exact E1.1⟩⟩
          case measure => simp only [intOf]; omega
        · obtain rfl : j = k := by omega
          have HIT : Hid (∀ x, hitR B LL off x = T.all fun t => t.f (x % t.E)) := Lib.hid (fun x => mkT_hit (by rw [← NL.out]; exact HR.out.t) HR.out.e)
          have M0 := Lib.hid HR.out.m
          have TE := Lib.hid HR.out.e
          have TL := Lib.hid HR.out.t.1
          obtain ⟨w7, e7⟩ : ∃ w7, w7 = wr := ⟨_, rfl⟩
          subst e7
          obtain ⟨a14, c14, rfl, q14, q15⟩ := rs_form M0.out.own
          clear HR TB TC HB HC CK cut1 cut2
          rw [TL.out] at M0 q14 ⊢
          go_wp2_with fail
          go_step3
          go_wp2_with fail
          go_loopw [17, 80] (fun v i wr => ∃ (x m : Nat), (x : Int) ≤ most ∧ i = .int .i64 x ∧ m ≤ 65536 ∧ (resL (hitR B LL off) x).length = m ∧ wr.ownsRow w7.heap.size 2 1 v m (rints (resL (hitR B LL off) x)) ∧ Below w7.heap.size w7 wr) (fun _ i _ => (most - intOf i).toNat)
          case atStart => exact ⟨0, 0, by omega, rfl, by omega, rfl, World.ownsRow_nil _ _ _ _, Below.refl _ _⟩
          case round =>
            obtain ⟨x, m, hx, rfl, hm, hl, ho, hb⟩ := hrel
            obtain ⟨ua, uc, rfl, u1, u2⟩ := rs_form ho
            have HL := Lib.hid hl
            have HO := Lib.hid ho
            have H7 := Lib.hid hb
            obtain ⟨w8, e8⟩ : ∃ w8, w8 = wr := ⟨_, rfl⟩
            subst e8
            clear hl ho hb
            by_cases hlt : (x : Int) < most
            · have M8 := Lib.hid (M0.out.below H7.out)
              go_wp2_with fail
              go_loopw [85] (fun i wr => ∃ q : Nat, i = .int .i64 q ∧ q ≤ j ∧ ((T.take q).all fun t => t.f (x % t.E)) = true ∧ w8 = wr) (fun i _ => j - (intOf i).toNat)
              case atStart => exact ⟨0, rfl, by omega, rfl, rfl⟩
              case round =>
                obtain ⟨q, rfl, hq, hall, e9⟩ := hrel
                subst e9
                have HA := Lib.hid hall
                clear hall
                by_cases hqj : q < j
                · have hqT : q < T.length := by rw [TL.out]; exact hqj
                  obtain ⟨t, ht⟩ : ∃ t, T[q]? = some t := ⟨_, List.getElem?_eq_getElem hqT⟩
                  obtain ⟨g, c, he, hg, cq⟩ := M8.out.at ht
                  cases he
                  obtain ⟨_, _, mb⟩ := M8.out.bl t (List.mem_of_getElem? ht)
                  have tE := TE.out t (List.mem_of_getElem? ht)
                  have hmod : x % t.E < t.E := Nat.mod_lt _ (by omega)
                  have cf := mb.cell hmod
                  have lf := mb.lt
                  have NX : Hid (((T.take (q + 1)).all fun t => t.f (x % t.E)) = t.f (x % t.E)) := Lib.hid (by rw [List.take_add_one, ht, List.all_append, HA.out]; simp)
                  have NO : Hid (t.f (x % t.E) = false → hitR B LL off x = false) := Lib.hid (fun h => by
                    rw [HIT.out, Bool.eq_false_iff]
                    intro h2
                    rw [List.all_eq_true] at h2
                    have := h2 t (List.mem_of_getElem? ht)
                    rw [h] at this; cases this)
                  obtain ⟨tg, tE', tf⟩ := t
                  simp only [mval] at cq tE hmod cf lf NX NO
                  generalize hf : tf (x % tE') = fv at cf NX NO
                  clear mb ht hf
                  have qj : (q : Int) < (T.length : Int) := by omega
                  cases fv with
                  | false =>
                    have NN : Hid (resL (hitR B LL off) (x + 1) = resL (hitR B LL off) x) := Lib.hid (resL_no (NO.out rfl))
                    go_wp2_with fail
                    go_roundw
                    case rel => exact ⟨x + 1, m, by omega, by go_num, hm, by rw [NN.out]; exact HL.out, by rw [NN.out]; exact HO.out, H7.out⟩
                    case measure => simp only [intOf]; omega
                  | true =>
                    go_wp2_with fail
                    go_roundw
                    case rel => exact ⟨q + 1, by go_num, by omega, NX.out, trivial⟩
                    case measure => simp only [intOf]; omega
                · obtain rfl : q = j := by omega
                  have hit : hitR B LL off x = true := by
                    rw [HIT.out]
                    have := HA.out
                    rwa [List.take_of_length_le (by rw [TL.out]; exact Nat.le_refl _)] at this
                  have NN : Hid (resL (hitR B LL off) (x + 1) = resL (hitR B LL off) x ++ [(x : Int)]) := Lib.hid (resL_yes hit)
                  clear hit
                  by_cases hmm : m = 65536
                  · have E2 : Hid (resW B LL off most = ([], 3)) := Lib.hid (by
                      rw [W3.out, if_pos]
                      have := resL_more (hitR B LL off) (x + 1) (most.toNat - (x + 1))
                      rw [show x + 1 + (most.toNat - (x + 1)) = most.toNat by omega, NN.out, List.length_append, HL.out] at this
                      simp only [List.length_cons, List.length_nil] at this
                      omega)
                    subst hmm
                    go_wp2_with fail
                    try rw [Exit.noGoto_ret]
                    go_ret2
                    exact resP_no E2.out (M8.out.b)
                  · have hmi : ¬ (m : Int) = 65536 := by omega
                    have hB8 : w7.heap.size ≤ w8.heap.size := H7.out.size
                    go_wp2_with (refine wpList_append_own_at _ rfl (.tmp 101) (.tmp 103) 39 rfl w7.heap.size 2 I2 Z2 1 8 Try.undIn hi2 hz2 hs2 hy2 hk2 (by decide) (.slice ua m uc) m (rints (resL (hitR B LL off) x)) rfl (HO.out.alloc _) ⟨w8.heap.size, 0, none⟩ 1 1 [.int .i64 x] rfl rfl (i_cells (Deep.blk_alloc_new w8 _)) (i_one _) (by simp only [maxLen]; omega) (by omega) (by simp; omega) ?_; intro v9 w9 ow gr _ hat; have OW := Lib.hid ow; have GR := Lib.hid (rs_grown (H7.out.alloc hB8 _) gr (HO.out.alloc _) (by simp; omega)); clear ow gr hat)
                    go_roundw
                    case rel => exact ⟨x + 1, m + 1, by omega, by go_num, by omega, by rw [NN.out, List.length_append, HL.out]; rfl, by rw [NN.out, rints_snoc]; exact OW.out, GR.out⟩
                    case measure => simp only [intOf]; omega
            · obtain rfl : (x : Int) = most := by omega
              go_wp2_with fail
              try rw [Exit.noGoto_ret]
              go_ret2
              have e : resW B LL off x = (resL (hitR B LL off) x, 0) := by
                rw [W3.out, Int.toNat_natCast, if_neg (by rw [HL.out]; omega)]
              have z7 := M0.out.b.size
              exact ⟨_, ret2v' (by rw [e]), by rw [e, HL.out]; exact rs_low HO.out z7, M0.out.b.trans (H7.out.mono z7)⟩
end Go.Proofs.Ytdngkeefbpffcaa
