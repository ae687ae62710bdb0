import Derived.Test.YtdngkeefbpffcaaPrD
import Derived.Test.YtdngkeefbpffcaaPlW
set_option autoImplicit false
set_option linter.unusedVariables false
namespace Go.Proofs.Ytdngkeefbpffcaa
open Go.RowKit Lk Rs Pl Fo
theorem one_row {W w : World} {r : Rw} (b : Below W.heap.size W w) (o : w.ownsRow W.heap.size r.t r.c r.v r.n r.xs) : Rowss W w [r] := ⟨b, fun q hq => by rw [List.mem_singleton] at hq; subst hq; exact o, by simp⟩
theorem Try.und39 : Try.prog.underlying 39 = some (.slice 2) := by kernel_rfl
theorem Try.und36 : Try.prog.underlying 36 = some (.slice 39) := by kernel_rfl
theorem Try.und35 : Try.prog.underlying 35 = some (.slice 24) := by kernel_rfl
theorem run_front39 (g n m cap : Nat) (h : n ≤ cap) (hs : n ≤ 9223372036854775807) (w : World) : (Instr.slice 39 (.slice (some ⟨g, 0, none⟩) m cap) none (some (.int .i64 (n : Int))) none).run Try.prog w = .ok (.slice (some ⟨g, 0, none⟩) n cap) w := by
  simp [Instr.slice, run_underlying Try.und39, Instr.sliceBounds, Instr.sliceBound, asIntOf, go_sem, h]
theorem run_front35 (g n m cap : Nat) (h : n ≤ cap) (hs : n ≤ 9223372036854775807) (w : World) : (Instr.slice 35 (.slice (some ⟨g, 0, none⟩) m cap) none (some (.int .i64 (n : Int))) none).run Try.prog w = .ok (.slice (some ⟨g, 0, none⟩) n cap) w := by
  simp [Instr.slice, run_underlying Try.und35, Instr.sliceBounds, Instr.sliceBound, asIntOf, go_sem, h]
theorem rQ_own {W w : World} {F : List Rw} (h : Rowss W w F) {T : List Cm} (hm : ∀ t ∈ T, rQ t ∈ F) : ∀ t ∈ T, w.ownsRow W.heap.size 2 1 (.slice (some ⟨t.g, 0, none⟩) (t.C.length + 1) t.cap) (t.C.length + 1) (rints (t.C ++ [77])) := fun t ht => h.own _ (hm t ht)
def rBt (g n cap : Nat) (B : List Bt) : Rw := ⟨24, 5, n + 1, .slice (some ⟨g, 0, none⟩) (n + 1) cap, flB (B ++ [mk78])⟩
def rN (v : Value) (n : Nat) (l : List Int) : Rw := ⟨2, 1, n, v, rints l⟩
theorem res_len (B : List Bt) (LL : List (List Int)) (off most : Int) : (resW B LL off most).1.length ≤ 65536 := by
  unfold resW
  split
  · simp
  · split
    · simp
    · split
      · simp
      · split
        · simp
        · split
          · simp
          · split
            · simp
            · simp only; omega
def rZ (v : Value) (n : Nat) (xs : List Value) : Rw := ⟨2, 1, n, v, xs⟩
theorem rows_hd {w0 w : World} {r : Rw} {F : List Rw} (h : Rowss w0 w (r :: F)) : w.ownsRow w0.heap.size r.t r.c r.v r.n r.xs := h.own r (by simp)
theorem own_pos {w : World} {B t c n : Nat} {v : Value} {xs : List Value} (h : w.ownsRow B t c v n xs) (h0 : 0 < n) : ∃ g cap, v = .slice (some ⟨g, 0, none⟩) n cap ∧ n ≤ cap ∧ cap ≤ 9223372036854775807 := by
  rcases h.2 with ⟨_, e⟩ | ⟨g, cap, cur, rfl, _, _, h1, h2, _⟩
  · omega
  · exact ⟨g, cap, rfl, h1, by unfold maxLen at h2; omega⟩
theorem perm3 (a b c : Rw) (F : List Rw) : (a :: b :: c :: F).Perm (a :: c :: (F ++ [b])) := by
  refine List.Perm.cons _ ((List.Perm.swap _ _ _).trans (List.Perm.cons _ ?_))
  exact (List.perm_append_singleton b F).symm
set_option maxRecDepth 100000 in
set_option maxHeartbeats 8000000 in
theorem resolves_law (aB : Option Addr) (nB cB : Nat) (B : List Bt) (aC : Option Addr) (nC cC : Nat) (LL : List (List Int)) (off most : Int) (W : World) (hB : SBt W aB nB cB B) (hC : SC W aC nC cC LL) (hl : ∀ C ∈ LL, C.length ≤ 1048576)
    (nB0 : aB = none → nB = 0 ∧ cB = 0) (nC0 : ∀ b o (j n' c' : Nat), aC = some ⟨b, o, none⟩ → j < nC → W.cell? ⟨b, o + j, none⟩ = some (.slice none n' c') → n' = 0 ∧ c' = 0) :
    Calls Try.prog 4 #[.agg #[.slice aB nB cB, .slice aC nC cC, .int .i64 off, .int .i64 most]] W (fun e w' => e = .returned (.bool true) ∧ Below W.heap.size W w') := by
  have HB := Lib.hid hB
  have HC := Lib.hid hC
  have HL := Lib.hid hl
  have NB := Lib.hid nB0
  have NC := Lib.hid nC0
  have b1 := hB.le
  have b2 := hB.small
  have c1 := hC.le
  have c2 := hC.small
  obtain ⟨I1, Z1, hi1, hz1, hs1, hy1, hk1⟩ := rs_info rs_int_info
  obtain ⟨I2, Z2, hi2, hz2, hs2, hy2, hk2⟩ := rs_info rs_bt_info
  obtain ⟨I3, Z3, hi3, hz3, hs3, hy3, hk3⟩ := rs_info rs_si_info
  clear hB hC hl nB0 nC0
  go_enter Try.func4, Try.ntmps4
  go_upto_region 1 with fail
  obtain ⟨gA, hgA⟩ : ∃ g, g = W.heap.size := ⟨_, rfl⟩
  refine wp_forget (fun wx => Rowss W wx [rBox gA (askL aB nB cB aC nC cC off most)]) ?_ ?_
  · rw [hgA]
    exact one_row (r := rBox W.heap.size (askL aB nB cB aC nC cC off most)) (al_below W _) (box_own W _ rfl)
  intro w1 r1
  have R1 := Lib.hid r1
  rw [← hgA]
  clear r1 hgA
  obtain ⟨jb, jc, jl⟩ := jx_of (g := gA) (xs := askL aB nB cB aC nC cC off most) R1.out (by simp)
  have d0 := jc 0 _ rfl
  have d1 := jc 1 _ rfl
  have d2 := jc 2 _ rfl
  have d3 := jc 3 _ rfl
  clear jb jc
  go_wp2_with fail
  refine (great_walk aB nB cB B aC nC cC LL off most w1 (HB.out.keep R1.out.b) (HC.out.keep R1.out.b) HL.out).mono ?_
  rintro e w2 ⟨G, rfl, hG, bw⟩
  have R2 := Lib.hid (R1.out.below bw)
  have HG := Lib.hid hG
  clear bw hG R1 d0 d1 d2 d3 jl
  cases G with
  | true =>
    go_wp2_with fail
    refine (wakes_walk _).mono ?_
    rintro e w3 ⟨rfl, b3⟩
    have B3 := Lib.hid (R2.out.b.trans (b3.mono R2.out.b.size))
    clear b3
    go_wp2_with fail
    go_ret
    exact ⟨rfl, B3.out⟩
  | false =>
    obtain ⟨g1, g2, g3⟩ := HG.out rfl
    have G3 := Lib.hid g3
    clear g3 HG
    go_wp2_with fail
    go_loopw [3, 4] (fun v3 v4 wr => ∃ (i : Nat) (T : List Cm), v4 = .int .i64 i ∧ i ≤ nC ∧ T.map (·.C) = LL.take i ∧ Rowss W wr (rO v3 T :: rBox gA (askL aB nB cB aC nC cC off most) :: T.map rQ)) (fun _ v4 _ => nC - (intOf v4).toNat)
    case atStart => exact ⟨0, [], rfl, by omega, rfl, R2.out.none1 39 1⟩
    case round =>
      clear R2
      obtain ⟨i, T, rfl, hi, hT, hrw⟩ := hrel
      have RW := Lib.hid hrw
      have HT := Lib.hid hT
      clear hrw hT
      obtain ⟨w3, e3⟩ : ∃ y, y = wr := ⟨_, rfl⟩
      rw [← e3] at RW ⊢
      clear e3
      by_cases hlt : i < nC
      · have i1 : (i : Int) < (nC : Int) := by omega
        have TL : T.length = i := by have := congrArg List.length HT.out; rw [List.length_map, List.length_take, HC.out.len] at this; omega
        obtain ⟨bc, oc, C, a', c', rfl, hbc, hcx, cc0, sn⟩ := HC.out.at hlt
        have CL := G3.out C (List.mem_of_getElem? hcx)
        have N0 : a' = none → C.length = 0 ∧ c' = 0 := fun e => by subst e; exact NC.out bc oc i C.length c' rfl hlt cc0
        have TS : Hid (LL.take i ++ [C] = LL.take (i + 1)) := Lib.hid (by rw [List.take_add_one, hcx]; rfl)
        have SNC := Lib.hid sn
        have sle := sn.le
        have ssm := sn.small
        have CC := Lib.hid cc0
        have HBC := Lib.hid hbc
        obtain ⟨M, hM⟩ : ∃ M, M = C.length := ⟨_, rfl⟩
        rw [← hM] at CL N0 SNC CC sle
        have HM := Lib.hid hM
        have rl : (rints C).length = M * 1 := by rw [rints_len, ← hM, Nat.mul_one]
        have zW := RW.out.b.size
        clear hcx cc0 sn hbc hM
        obtain ⟨jb, jc, jl⟩ := jx_of (g := gA) (xs := askL aB nB cB (some ⟨bc, oc, none⟩) nC cC off most) RW.out (List.mem_cons_of_mem _ (List.mem_cons_self))
        have d1 := jc 1 _ rfl
        clear jb jc
        go_wp2_with fail
        refine wp_region_J1 20 (JX W gA (askL aB nB cB (some ⟨bc, oc, none⟩) nC cC off most)) (by kernel_rfl) rfl (by kernel_rfl) (jx_of RW.out (List.mem_cons_of_mem _ (List.mem_cons_self))).drew (fun w4 hb4 hJ hs => ?_)
        have HJ := Lib.hid hJ
        have R4 := Lib.hid (RW.out.below hb4)
        clear hJ hb4 RW d1 jl
        (refine j_take 0 _ ?_ hs rfl rfl (by kernel_rfl) (by kernel_rfl) HJ.out (fun w' hw' => ?_) ?_; rotate_left; (· skip; go_simp; rfl); (go_simp))
        (refine j_take 2 _ ?_ hs rfl rfl (by kernel_rfl) (by kernel_rfl) HJ.out (fun w' hw' => ?_) ?_; rotate_left; (· have d := hw'.c 1 _ rfl; go_simp; rfl); (go_simp))
        (refine j_take 3 _ ?_ hs rfl rfl (by kernel_rfl) (by kernel_rfl) HJ.out (fun w' hw' => ?_) ?_; rotate_left; (· have d := hw'.c 1 _ rfl; go_simp; rfl); (go_simp))
        (refine j_take 4 _ ?_ hs rfl rfl (by kernel_rfl) (by kernel_rfl) HJ.out (fun w' hw' => ?_) ?_; rotate_left; (· skip; go_simp; rfl); (go_simp))
        (refine j_take 5 _ ?_ hs rfl rfl (by kernel_rfl) (by kernel_rfl) HJ.out (fun w' hw' => ?_) ?_; rotate_left; (· skip; go_simp; rfl); (go_simp))
        (refine j_take 6 _ ?_ hs rfl rfl (by kernel_rfl) (by kernel_rfl) HJ.out (fun w' hw' => ?_) ?_; rotate_left; (· have d := (hw'.b.cell (p := ⟨bc, oc + i, none⟩) HBC.out).trans CC.out; go_simp; rfl); (go_simp))
        (refine j_take 10 _ ?_ hs rfl rfl (by kernel_rfl) (by kernel_rfl) HJ.out (fun w' hw' => ?_) ?_; rotate_left; (· have d := hw'.c 1 _ rfl; go_simp; rfl); (go_simp))
        (refine j_take 11 _ ?_ hs rfl rfl (by kernel_rfl) (by kernel_rfl) HJ.out (fun w' hw' => ?_) ?_; rotate_left; (· have d := hw'.c 1 _ rfl; go_simp; rfl); (go_simp))
        (refine j_take 12 _ ?_ hs rfl rfl (by kernel_rfl) (by kernel_rfl) HJ.out (fun w' hw' => ?_) ?_; rotate_left; (· skip; go_simp; rfl); (go_simp))
        (refine j_take 13 _ ?_ hs rfl rfl (by kernel_rfl) (by kernel_rfl) HJ.out (fun w' hw' => ?_) ?_; rotate_left; (· skip; go_simp; rfl); (go_simp))
        (refine j_take 14 _ ?_ hs rfl rfl (by kernel_rfl) (by kernel_rfl) HJ.out (fun w' hw' => ?_) ?_; rotate_left; (· have d := (hw'.b.cell (p := ⟨bc, oc + i, none⟩) HBC.out).trans CC.out; go_simp; rfl); (go_simp))
        (refine j_take 15 _ ?_ hs rfl rfl (by kernel_rfl) (by kernel_rfl) HJ.out (fun w' hw' => ?_) ?_; rotate_left; (· skip; go_simp; rfl); (go_simp))
        have zb := R4.out.b.size
        refine j_two 1 8 _ _ rfl rfl (by kernel_rfl) (jx_of (g := gA) R4.out (by simp)) ?_ ?_
        · go_wp2_with fail
          have E1 := Lib.hid (Rowss.new1 (r := ⟨2, 1, 0, .slice (some ⟨w4.heap.size, 0, none⟩) 0 0, []⟩) R4.out (empty_i w4 R4.out.b.size) rfl)
          refine ⟨jx_of (g := gA) E1.out (by simp), ?_⟩
          refine j_two 7 8 _ _ rfl rfl (by kernel_rfl) (jx_of (g := gA) E1.out (by simp)) ?_ ?_
          · refine wpList_append_any rfl (.tmp 28) (.tmp 33) 39 rfl W.heap.size 2 I1 Z1 1 8 Try.und39 hi1 hz1 hs1 hy1 hk1 (by decide) (.slice (some ⟨w4.heap.size, 0, none⟩) 0 0) 0 [] rfl (rows_hd E1.out) a' M c' (rints C) rfl N0 rl (sn_src (SNC.out.keep E1.out.b)) (rints_one _) (by simp only [maxLen]; omega) (by omega) E1.out.b.size ?_
            intro v7 w7 ow gr hat
            have P2 := Lib.hid (E1.out.grow1 gr ow hat)
            rw [List.nil_append, Nat.zero_add] at P2
            clear ow gr hat
            go_wp2_with fail
            refine ⟨jx_of (g := gA) P2.out (by simp), ?_⟩
            refine j_one 8 _ rfl (by kernel_rfl) (jx_of (g := gA) P2.out (by simp)) ?_
            go_wp2_with fail
            have K3 := Lib.hid (Rowss.new1 (r := ⟨2, 1, 1, .slice (some ⟨w7.heap.size, 0, none⟩) 1 1, [.int .i64 77]⟩) P2.out (one_i w7 P2.out.b.size 77) rfl)
            refine ⟨jx_of (g := gA) K3.out (by simp), ?_⟩
            refine j_one 9 _ rfl (by kernel_rfl) (jx_of (g := gA) K3.out (by simp)) ?_
            have S4 := Lib.hid K3.out.swap
            refine wpList_append_own_at _ rfl (.tmp 34) (.tmp 35) 39 rfl W.heap.size 2 I1 Z1 1 8 Try.und39 hi1 hz1 hs1 hy1 hk1 (by decide) v7 M (rints C) rfl (rows_hd S4.out) ⟨w7.heap.size, 0, none⟩ 1 1 [.int .i64 77] rfl rfl (fun j u h => (S4.out.own ⟨2, 1, 1, .slice (some ⟨w7.heap.size, 0, none⟩) 1 1, [.int .i64 77]⟩ (by simp)).cells (g := w7.heap.size) rfl j u h) (by simp [Value.oneCell']) (by simp only [maxLen]; omega) (by omega) S4.out.b.size ?_
            intro v9 w9 ow gr _ hat
            have R9 := Lib.hid (Rowss.drop1 (Rowss.swap (S4.out.grow1 gr ow hat)))
            obtain ⟨g9, c9, rfl, q1, q2⟩ := own_pos ow (by omega)
            clear ow gr hat
            have Q9 : Hid (Rowss W w9 (rQ ⟨g9, c9, C⟩ :: rO u3 T :: rBox gA (askL aB nB cB (some ⟨bc, oc, none⟩) nC cC off most) :: T.map rQ)) := Lib.hid (by
              have q := R9.out
              have e : (⟨2, 1, M + 1, .slice (some ⟨g9, 0, none⟩) (M + 1) c9, rints C ++ [.int .i64 77]⟩ : Rw) = rQ ⟨g9, c9, C⟩ := by unfold rQ; rw [HM.out, rints_snoc]
              rw [← e]; exact q)
            go_wp2_with fail
            refine ⟨jx_of (g := gA) Q9.out (by simp), ?_⟩
            have s16 := fun w => run_front39 g9 M (M + 1) c9 (by omega) (by omega) w
            refine j_one 16 _ rfl (by kernel_rfl) (jx_of (g := gA) Q9.out (by simp)) ?_
            go_wp2_with fail
            refine ⟨jx_of (g := gA) Q9.out (by simp), ?_⟩
            clear s16
            refine j_one 17 _ rfl (by kernel_rfl) (jx_of (g := gA) Q9.out (by simp)) ?_
            go_wp2_with fail
            have R17 := Lib.hid (Rowss.swap (Q9.out.below (al_below w9 (.cells #[.slice (some ⟨g9, 0, none⟩) M c9] 39))))
            refine ⟨jx_of (g := gA) R17.out (by simp), ?_⟩
            refine j_one 18 _ rfl (by kernel_rfl) (jx_of (g := gA) R17.out (by simp)) ?_
            refine wpList_append_own_at _ rfl (.tmp 27) (.tmp 44) 36 rfl W.heap.size 39 I3 Z3 1 24 Try.und36 hi3 hz3 hs3 hy3 hk3 (by decide) u3 T.length (T.map sv) rfl (rows_hd R17.out) ⟨w9.heap.size, 0, none⟩ 1 1 [.slice (some ⟨g9, 0, none⟩) M c9] rfl rfl (cell_one_new w9 _ _) (by simp [Value.oneCell']) (by simp only [maxLen]; omega) (by omega) R17.out.b.size ?_
            intro v18 w18 ow gr _ hat
            have R18 : Hid (Rowss W w18 (rO v18 (T ++ [⟨g9, c9, C⟩]) :: rBox gA (askL aB nB cB (some ⟨bc, oc, none⟩) nC cC off most) :: List.map rQ (T ++ [⟨g9, c9, C⟩]))) := Lib.hid (by
              have q := R17.out.grow1 gr ow hat
              have e : (⟨39, 1, T.length + 1, v18, T.map sv ++ [.slice (some ⟨g9, 0, none⟩) M c9]⟩ : Rw) = rO v18 (T ++ [⟨g9, c9, C⟩]) := by unfold rO; rw [List.map_append, List.length_append, HM.out]; rfl
              rw [← e, List.map_append]; exact q.perm (perm3 _ _ _ _))
            clear ow gr hat R17
            go_wp2_with fail
            refine ⟨jx_of (g := gA) R18.out (by simp), ?_⟩
            refine j_one 19 _ rfl (by kernel_rfl) (jx_of (g := gA) R18.out (by simp)) ?_
            go_wp2_with fail
            refine ⟨jx_of (g := gA) R18.out (by simp), j_done (by kernel_rfl) ?_⟩
            go_wp2_with fail
            go_roundw
            case rel => exact ⟨i + 1, T ++ [⟨g9, c9, C⟩], by go_num, by omega, by rw [List.map_append, HT.out]; exact TS.out, R18.out⟩
            case measure => simp only [intOf]; omega
          · go_wp2_with fail
            have K2 := Lib.hid (Rowss.new1 (r := ⟨2, 1, 1, .slice (some ⟨w4.heap.size + 1, 0, none⟩) 1 1, [.int .i64 77]⟩) E1.out (by have q := one_i (w4.alloc (.cells #[] 2)) E1.out.b.size 77; rw [szN] at q; exact q) (by simp [Value.ownBlock]))
            refine ⟨jx_of (g := gA) K2.out (by simp), ?_⟩
            refine j_one 7 _ rfl (by kernel_rfl) (jx_of (g := gA) K2.out (by simp)) ?_
            have S3 := Lib.hid K2.out.swap
            refine wpList_append_any rfl (.tmp 28) (.tmp 33) 39 rfl W.heap.size 2 I1 Z1 1 8 Try.und39 hi1 hz1 hs1 hy1 hk1 (by decide) (.slice (some ⟨w4.heap.size, 0, none⟩) 0 0) 0 [] rfl (rows_hd S3.out) a' M c' (rints C) rfl N0 rl (sn_src (SNC.out.keep S3.out.b)) (rints_one _) (by simp only [maxLen]; omega) (by omega) S3.out.b.size ?_
            intro v7 w7 ow gr hat
            have P4 := Lib.hid (S3.out.grow1 gr ow hat)
            rw [List.nil_append, Nat.zero_add] at P4
            clear ow gr hat
            go_wp2_with fail
            refine ⟨jx_of (g := gA) P4.out (by simp), ?_⟩
            refine j_one 9 _ rfl (by kernel_rfl) (jx_of (g := gA) P4.out (by simp)) ?_
            refine wpList_append_own_at _ rfl (.tmp 34) (.tmp 35) 39 rfl W.heap.size 2 I1 Z1 1 8 Try.und39 hi1 hz1 hs1 hy1 hk1 (by decide) v7 M (rints C) rfl (rows_hd P4.out) ⟨w4.heap.size + 1, 0, none⟩ 1 1 [.int .i64 77] rfl rfl (fun j u h => (P4.out.own ⟨2, 1, 1, .slice (some ⟨w4.heap.size + 1, 0, none⟩) 1 1, [.int .i64 77]⟩ (by simp)).cells (g := w4.heap.size + 1) rfl j u h) (by simp [Value.oneCell']) (by simp only [maxLen]; omega) (by omega) P4.out.b.size ?_
            intro v9 w9 ow gr _ hat
            have R9 := Lib.hid (Rowss.drop1 (Rowss.swap (P4.out.grow1 gr ow hat)))
            obtain ⟨g9, c9, rfl, q1, q2⟩ := own_pos ow (by omega)
            clear ow gr hat
            have Q9 : Hid (Rowss W w9 (rQ ⟨g9, c9, C⟩ :: rO u3 T :: rBox gA (askL aB nB cB (some ⟨bc, oc, none⟩) nC cC off most) :: T.map rQ)) := Lib.hid (by
              have q := R9.out
              have e : (⟨2, 1, M + 1, .slice (some ⟨g9, 0, none⟩) (M + 1) c9, rints C ++ [.int .i64 77]⟩ : Rw) = rQ ⟨g9, c9, C⟩ := by unfold rQ; rw [HM.out, rints_snoc]
              rw [← e]; exact q)
            go_wp2_with fail
            refine ⟨jx_of (g := gA) Q9.out (by simp), ?_⟩
            have s16 := fun w => run_front39 g9 M (M + 1) c9 (by omega) (by omega) w
            refine j_one 16 _ rfl (by kernel_rfl) (jx_of (g := gA) Q9.out (by simp)) ?_
            go_wp2_with fail
            refine ⟨jx_of (g := gA) Q9.out (by simp), ?_⟩
            clear s16
            refine j_one 17 _ rfl (by kernel_rfl) (jx_of (g := gA) Q9.out (by simp)) ?_
            go_wp2_with fail
            have R17 := Lib.hid (Rowss.swap (Q9.out.below (al_below w9 (.cells #[.slice (some ⟨g9, 0, none⟩) M c9] 39))))
            refine ⟨jx_of (g := gA) R17.out (by simp), ?_⟩
            refine j_one 18 _ rfl (by kernel_rfl) (jx_of (g := gA) R17.out (by simp)) ?_
            refine wpList_append_own_at _ rfl (.tmp 27) (.tmp 44) 36 rfl W.heap.size 39 I3 Z3 1 24 Try.und36 hi3 hz3 hs3 hy3 hk3 (by decide) u3 T.length (T.map sv) rfl (rows_hd R17.out) ⟨w9.heap.size, 0, none⟩ 1 1 [.slice (some ⟨g9, 0, none⟩) M c9] rfl rfl (cell_one_new w9 _ _) (by simp [Value.oneCell']) (by simp only [maxLen]; omega) (by omega) R17.out.b.size ?_
            intro v18 w18 ow gr _ hat
            have R18 : Hid (Rowss W w18 (rO v18 (T ++ [⟨g9, c9, C⟩]) :: rBox gA (askL aB nB cB (some ⟨bc, oc, none⟩) nC cC off most) :: List.map rQ (T ++ [⟨g9, c9, C⟩]))) := Lib.hid (by
              have q := R17.out.grow1 gr ow hat
              have e : (⟨39, 1, T.length + 1, v18, T.map sv ++ [.slice (some ⟨g9, 0, none⟩) M c9]⟩ : Rw) = rO v18 (T ++ [⟨g9, c9, C⟩]) := by unfold rO; rw [List.map_append, List.length_append, HM.out]; rfl
              rw [← e, List.map_append]; exact q.perm (perm3 _ _ _ _))
            clear ow gr hat R17
            go_wp2_with fail
            refine ⟨jx_of (g := gA) R18.out (by simp), ?_⟩
            refine j_one 19 _ rfl (by kernel_rfl) (jx_of (g := gA) R18.out (by simp)) ?_
            go_wp2_with fail
            refine ⟨jx_of (g := gA) R18.out (by simp), j_done (by kernel_rfl) ?_⟩
            go_wp2_with fail
            go_roundw
            case rel => exact ⟨i + 1, T ++ [⟨g9, c9, C⟩], by go_num, by omega, by rw [List.map_append, HT.out]; exact TS.out, R18.out⟩
            case measure => simp only [intOf]; omega
        · go_wp2_with fail
          have K1 := Lib.hid (Rowss.new1 (r := ⟨2, 1, 1, .slice (some ⟨w4.heap.size, 0, none⟩) 1 1, [.int .i64 77]⟩) R4.out (one_i w4 R4.out.b.size 77) rfl)
          refine ⟨jx_of (g := gA) K1.out (by simp), ?_⟩
          refine j_one 1 _ rfl (by kernel_rfl) (jx_of (g := gA) K1.out (by simp)) ?_
          go_wp2_with fail
          have E2 := Lib.hid (Rowss.new1 (r := ⟨2, 1, 0, .slice (some ⟨w4.heap.size + 1, 0, none⟩) 0 0, []⟩) K1.out (by have q := empty_i (w4.alloc (.cells #[.int .i64 77] 2)) K1.out.b.size; rw [szN] at q; exact q) (by simp [Value.ownBlock]))
          refine ⟨jx_of (g := gA) E2.out (by simp), ?_⟩
          refine j_one 7 _ rfl (by kernel_rfl) (jx_of (g := gA) E2.out (by simp)) ?_
          refine wpList_append_any rfl (.tmp 28) (.tmp 33) 39 rfl W.heap.size 2 I1 Z1 1 8 Try.und39 hi1 hz1 hs1 hy1 hk1 (by decide) (.slice (some ⟨w4.heap.size + 1, 0, none⟩) 0 0) 0 [] rfl (rows_hd E2.out) a' M c' (rints C) rfl N0 rl (sn_src (SNC.out.keep E2.out.b)) (rints_one _) (by simp only [maxLen]; omega) (by omega) E2.out.b.size ?_
          intro v7 w7 ow gr hat
          have P3 := Lib.hid (E2.out.grow1 gr ow hat)
          rw [List.nil_append, Nat.zero_add] at P3
          clear ow gr hat
          go_wp2_with fail
          refine ⟨jx_of (g := gA) P3.out (by simp), ?_⟩
          refine j_one 9 _ rfl (by kernel_rfl) (jx_of (g := gA) P3.out (by simp)) ?_
          refine wpList_append_own_at _ rfl (.tmp 34) (.tmp 35) 39 rfl W.heap.size 2 I1 Z1 1 8 Try.und39 hi1 hz1 hs1 hy1 hk1 (by decide) v7 M (rints C) rfl (rows_hd P3.out) ⟨w4.heap.size, 0, none⟩ 1 1 [.int .i64 77] rfl rfl (fun j u h => (P3.out.own ⟨2, 1, 1, .slice (some ⟨w4.heap.size, 0, none⟩) 1 1, [.int .i64 77]⟩ (by simp)).cells (g := w4.heap.size) rfl j u h) (by simp [Value.oneCell']) (by simp only [maxLen]; omega) (by omega) P3.out.b.size ?_
          intro v9 w9 ow gr _ hat
          have R9 := Lib.hid (Rowss.drop1 (Rowss.swap (P3.out.grow1 gr ow hat)))
          obtain ⟨g9, c9, rfl, q1, q2⟩ := own_pos ow (by omega)
          clear ow gr hat
          have Q9 : Hid (Rowss W w9 (rQ ⟨g9, c9, C⟩ :: rO u3 T :: rBox gA (askL aB nB cB (some ⟨bc, oc, none⟩) nC cC off most) :: T.map rQ)) := Lib.hid (by
            have q := R9.out
            have e : (⟨2, 1, M + 1, .slice (some ⟨g9, 0, none⟩) (M + 1) c9, rints C ++ [.int .i64 77]⟩ : Rw) = rQ ⟨g9, c9, C⟩ := by unfold rQ; rw [HM.out, rints_snoc]
            rw [← e]; exact q)
          go_wp2_with fail
          refine ⟨jx_of (g := gA) Q9.out (by simp), ?_⟩
          have s16 := fun w => run_front39 g9 M (M + 1) c9 (by omega) (by omega) w
          refine j_one 16 _ rfl (by kernel_rfl) (jx_of (g := gA) Q9.out (by simp)) ?_
          go_wp2_with fail
          refine ⟨jx_of (g := gA) Q9.out (by simp), ?_⟩
          clear s16
          refine j_one 17 _ rfl (by kernel_rfl) (jx_of (g := gA) Q9.out (by simp)) ?_
          go_wp2_with fail
          have R17 := Lib.hid (Rowss.swap (Q9.out.below (al_below w9 (.cells #[.slice (some ⟨g9, 0, none⟩) M c9] 39))))
          refine ⟨jx_of (g := gA) R17.out (by simp), ?_⟩
          refine j_one 18 _ rfl (by kernel_rfl) (jx_of (g := gA) R17.out (by simp)) ?_
          refine wpList_append_own_at _ rfl (.tmp 27) (.tmp 44) 36 rfl W.heap.size 39 I3 Z3 1 24 Try.und36 hi3 hz3 hs3 hy3 hk3 (by decide) u3 T.length (T.map sv) rfl (rows_hd R17.out) ⟨w9.heap.size, 0, none⟩ 1 1 [.slice (some ⟨g9, 0, none⟩) M c9] rfl rfl (cell_one_new w9 _ _) (by simp [Value.oneCell']) (by simp only [maxLen]; omega) (by omega) R17.out.b.size ?_
          intro v18 w18 ow gr _ hat
          have R18 : Hid (Rowss W w18 (rO v18 (T ++ [⟨g9, c9, C⟩]) :: rBox gA (askL aB nB cB (some ⟨bc, oc, none⟩) nC cC off most) :: List.map rQ (T ++ [⟨g9, c9, C⟩]))) := Lib.hid (by
            have q := R17.out.grow1 gr ow hat
            have e : (⟨39, 1, T.length + 1, v18, T.map sv ++ [.slice (some ⟨g9, 0, none⟩) M c9]⟩ : Rw) = rO v18 (T ++ [⟨g9, c9, C⟩]) := by unfold rO; rw [List.map_append, List.length_append, HM.out]; rfl
            rw [← e, List.map_append]; exact q.perm (perm3 _ _ _ _))
          clear ow gr hat R17
          go_wp2_with fail
          refine ⟨jx_of (g := gA) R18.out (by simp), ?_⟩
          refine j_one 19 _ rfl (by kernel_rfl) (jx_of (g := gA) R18.out (by simp)) ?_
          go_wp2_with fail
          refine ⟨jx_of (g := gA) R18.out (by simp), j_done (by kernel_rfl) ?_⟩
          go_wp2_with fail
          go_roundw
          case rel => exact ⟨i + 1, T ++ [⟨g9, c9, C⟩], by go_num, by omega, by rw [List.map_append, HT.out]; exact TS.out, R18.out⟩
          case measure => simp only [intOf]; omega
      · obtain rfl : i = nC := by omega
        have TL : T.length = i := by have := congrArg List.length HT.out; rw [List.length_map, List.length_take, HC.out.len] at this; omega
        have TA : Hid (T.map (·.C) = LL) := Lib.hid (by rw [HT.out, List.take_of_length_le (by rw [HC.out.len]; exact Nat.le_refl _)])
        have fl : (flB B).length = nB * 5 := by rw [flB_len, HB.out.len]
        have zW := RW.out.b.size
        clear HT NC
        obtain ⟨jb, jc, jl⟩ := jx_of (g := gA) (xs := (askL aB nB cB aC i cC off most)) RW.out (List.mem_cons_of_mem _ (List.mem_cons_self))
        have d1 := jc 1 _ rfl
        clear jb jc
        go_upto_region 8 with fail
        clear d1 jl
        go_cut [5] from 46 to 56 (fun v5 wx => ∃ g9 c9, v5 = .slice (some ⟨g9, 0, none⟩) nB c9 ∧ Rowss W wx (rBt g9 nB c9 B :: rO u3 T :: rBox gA (askL aB nB cB aC i cC off most) :: T.map rQ))
        case first =>
          refine wp_region_J1 12 (JX W gA (askL aB nB cB aC i cC off most)) (by kernel_rfl) rfl (by kernel_rfl) (jx_of RW.out (List.mem_cons_of_mem _ (List.mem_cons_self))).drew (fun w4 hb4 hJ hs => ?_)
          have HJ := Lib.hid hJ
          have R4 := Lib.hid (RW.out.below hb4)
          clear hJ hb4 RW
          (refine j_take 1 _ ?_ hs rfl rfl (by kernel_rfl) (by kernel_rfl) HJ.out (fun w' hw' => ?_) ?_; rotate_left; (· skip; go_simp; rfl); (go_simp))
          (refine j_take 2 _ ?_ hs rfl rfl (by kernel_rfl) (by kernel_rfl) HJ.out (fun w' hw' => ?_) ?_; rotate_left; (· have d := hw'.c 0 _ rfl; go_simp; rfl); (go_simp))
          (refine j_take 4 _ ?_ hs rfl rfl (by kernel_rfl) (by kernel_rfl) HJ.out (fun w' hw' => ?_) ?_; rotate_left; (· skip; go_simp; rfl); (go_simp))
          (refine j_take 7 _ ?_ hs rfl rfl (by kernel_rfl) (by kernel_rfl) HJ.out (fun w' hw' => ?_) ?_; rotate_left; (· skip; go_simp; rfl); (go_simp))
          (refine j_take 8 _ ?_ hs rfl rfl (by kernel_rfl) (by kernel_rfl) HJ.out (fun w' hw' => ?_) ?_; rotate_left; (· have d := hw'.c 0 _ rfl; go_simp; rfl); (go_simp))
          (refine j_take 9 _ ?_ hs rfl rfl (by kernel_rfl) (by kernel_rfl) HJ.out (fun w' hw' => ?_) ?_; rotate_left; (· skip; go_simp; rfl); (go_simp))
          have zb := R4.out.b.size
          refine j_two 0 5 _ _ rfl rfl (by kernel_rfl) (jx_of (g := gA) (xs := (askL aB nB cB aC i cC off most)) R4.out (by simp)) ?_ ?_
          · go_wp2_with fail
            have E1 := Lib.hid (Rowss.new1 (r := ⟨24, 5, 0, .slice (some ⟨w4.heap.size, 0, none⟩) 0 0, []⟩) R4.out (empty_b w4 R4.out.b.size) rfl)
            refine ⟨(jx_of (g := gA) (xs := (askL aB nB cB aC i cC off most)) E1.out (by simp)), ?_⟩
            refine j_two 3 5 _ _ rfl rfl (by kernel_rfl) (jx_of (g := gA) (xs := (askL aB nB cB aC i cC off most)) E1.out (by simp)) ?_ ?_
            · refine wpList_append_any rfl (.tmp 46) (.tmp 48) 35 rfl W.heap.size 24 I2 Z2 5 40 Try.und35 hi2 hz2 hs2 hy2 hk2 (by decide) (.slice (some ⟨w4.heap.size, 0, none⟩) 0 0) 0 [] rfl (rows_hd E1.out) aB nB cB (flB B) rfl NB.out fl (bt_src (HB.out.keep E1.out.b)) (flB_one _) (by simp only [maxLen]; omega) (by omega) E1.out.b.size ?_
              intro v7 w7 ow gr hat
              have P2 := Lib.hid (E1.out.grow1 gr ow hat)
              rw [List.nil_append, Nat.zero_add] at P2
              clear ow gr hat
              go_wp2_with fail
              refine ⟨(jx_of (g := gA) (xs := (askL aB nB cB aC i cC off most)) P2.out (by simp)), ?_⟩
              refine j_one 5 _ rfl (by kernel_rfl) (jx_of (g := gA) (xs := (askL aB nB cB aC i cC off most)) P2.out (by simp)) ?_
              go_wp2_with fail
              have K3 := Lib.hid (Rowss.new1 (r := ⟨24, 5, 1, .slice (some ⟨w7.heap.size, 0, none⟩) 1 1, btL mk78⟩) P2.out (one_b w7 P2.out.b.size) rfl)
              refine ⟨(jx_of (g := gA) (xs := (askL aB nB cB aC i cC off most)) K3.out (by simp)), ?_⟩
              refine j_one 6 _ rfl (by kernel_rfl) (jx_of (g := gA) (xs := (askL aB nB cB aC i cC off most)) K3.out (by simp)) ?_
              have S4 := Lib.hid K3.out.swap
              refine wpList_append_own_at _ rfl (.tmp 49) (.tmp 51) 35 rfl W.heap.size 24 I2 Z2 5 40 Try.und35 hi2 hz2 hs2 hy2 hk2 (by decide) v7 nB (flB B) rfl (rows_hd S4.out) ⟨w7.heap.size, 0, none⟩ 1 1 (btL mk78) rfl rfl (fun j u h => (S4.out.own ⟨24, 5, 1, .slice (some ⟨w7.heap.size, 0, none⟩) 1 1, btL mk78⟩ (by simp)).cells (g := w7.heap.size) rfl j u h) (btL_one _) (by simp only [maxLen]; omega) (by omega) S4.out.b.size ?_
              intro v9 w9 ow gr _ hat
              have R9 := Lib.hid (Rowss.drop1 (Rowss.swap (S4.out.grow1 gr ow hat)))
              obtain ⟨g9, c9, rfl, q1, q2⟩ := own_pos ow (by omega)
              clear ow gr hat
              have Q9 : Hid (Rowss W w9 (rBt g9 nB c9 B :: rO u3 T :: rBox gA (askL aB nB cB aC i cC off most) :: T.map rQ)) := Lib.hid (by
                have q := R9.out
                have e : (⟨24, 5, nB + 1, .slice (some ⟨g9, 0, none⟩) (nB + 1) c9, flB B ++ btL mk78⟩ : Rw) = rBt g9 nB c9 B := by unfold rBt flB; simp
                rw [← e]; exact q)
              go_wp2_with fail
              refine ⟨(jx_of (g := gA) (xs := (askL aB nB cB aC i cC off most)) Q9.out (by simp)), ?_⟩
              have s16 := fun w => run_front35 g9 nB (nB + 1) c9 (by omega) (by omega) w
              refine j_one 10 _ rfl (by kernel_rfl) (jx_of (g := gA) (xs := (askL aB nB cB aC i cC off most)) Q9.out (by simp)) ?_
              go_wp2_with fail
              refine ⟨(jx_of (g := gA) (xs := (askL aB nB cB aC i cC off most)) Q9.out (by simp)), ?_⟩
              clear s16
              refine j_one 11 _ rfl (by kernel_rfl) (jx_of (g := gA) (xs := (askL aB nB cB aC i cC off most)) Q9.out (by simp)) ?_
              go_wp2_with fail
              refine ⟨(jx_of (g := gA) (xs := (askL aB nB cB aC i cC off most)) Q9.out (by simp)), j_done (by kernel_rfl) ?_⟩
              go_wp2_with fail
              go_meet
              exact ⟨g9, c9, rfl, Q9.out⟩
            · go_wp2_with fail
              have K2 := Lib.hid (Rowss.new1 (r := ⟨24, 5, 1, .slice (some ⟨w4.heap.size + 1, 0, none⟩) 1 1, btL mk78⟩) E1.out (by have q := one_b (w4.alloc (.cells #[] 24)) E1.out.b.size; rw [szN] at q; exact q) (by simp [Value.ownBlock]))
              refine ⟨(jx_of (g := gA) (xs := (askL aB nB cB aC i cC off most)) K2.out (by simp)), ?_⟩
              refine j_one 3 _ rfl (by kernel_rfl) (jx_of (g := gA) (xs := (askL aB nB cB aC i cC off most)) K2.out (by simp)) ?_
              have S3 := Lib.hid K2.out.swap
              refine wpList_append_any rfl (.tmp 46) (.tmp 48) 35 rfl W.heap.size 24 I2 Z2 5 40 Try.und35 hi2 hz2 hs2 hy2 hk2 (by decide) (.slice (some ⟨w4.heap.size, 0, none⟩) 0 0) 0 [] rfl (rows_hd S3.out) aB nB cB (flB B) rfl NB.out fl (bt_src (HB.out.keep S3.out.b)) (flB_one _) (by simp only [maxLen]; omega) (by omega) S3.out.b.size ?_
              intro v7 w7 ow gr hat
              have P4 := Lib.hid (S3.out.grow1 gr ow hat)
              rw [List.nil_append, Nat.zero_add] at P4
              clear ow gr hat
              go_wp2_with fail
              refine ⟨(jx_of (g := gA) (xs := (askL aB nB cB aC i cC off most)) P4.out (by simp)), ?_⟩
              refine j_one 6 _ rfl (by kernel_rfl) (jx_of (g := gA) (xs := (askL aB nB cB aC i cC off most)) P4.out (by simp)) ?_
              refine wpList_append_own_at _ rfl (.tmp 49) (.tmp 51) 35 rfl W.heap.size 24 I2 Z2 5 40 Try.und35 hi2 hz2 hs2 hy2 hk2 (by decide) v7 nB (flB B) rfl (rows_hd P4.out) ⟨w4.heap.size + 1, 0, none⟩ 1 1 (btL mk78) rfl rfl (fun j u h => (P4.out.own ⟨24, 5, 1, .slice (some ⟨w4.heap.size + 1, 0, none⟩) 1 1, btL mk78⟩ (by simp)).cells (g := w4.heap.size + 1) rfl j u h) (btL_one _) (by simp only [maxLen]; omega) (by omega) P4.out.b.size ?_
              intro v9 w9 ow gr _ hat
              have R9 := Lib.hid (Rowss.drop1 (Rowss.swap (P4.out.grow1 gr ow hat)))
              obtain ⟨g9, c9, rfl, q1, q2⟩ := own_pos ow (by omega)
              clear ow gr hat
              have Q9 : Hid (Rowss W w9 (rBt g9 nB c9 B :: rO u3 T :: rBox gA (askL aB nB cB aC i cC off most) :: T.map rQ)) := Lib.hid (by
                have q := R9.out
                have e : (⟨24, 5, nB + 1, .slice (some ⟨g9, 0, none⟩) (nB + 1) c9, flB B ++ btL mk78⟩ : Rw) = rBt g9 nB c9 B := by unfold rBt flB; simp
                rw [← e]; exact q)
              go_wp2_with fail
              refine ⟨(jx_of (g := gA) (xs := (askL aB nB cB aC i cC off most)) Q9.out (by simp)), ?_⟩
              have s16 := fun w => run_front35 g9 nB (nB + 1) c9 (by omega) (by omega) w
              refine j_one 10 _ rfl (by kernel_rfl) (jx_of (g := gA) (xs := (askL aB nB cB aC i cC off most)) Q9.out (by simp)) ?_
              go_wp2_with fail
              refine ⟨(jx_of (g := gA) (xs := (askL aB nB cB aC i cC off most)) Q9.out (by simp)), ?_⟩
              clear s16
              refine j_one 11 _ rfl (by kernel_rfl) (jx_of (g := gA) (xs := (askL aB nB cB aC i cC off most)) Q9.out (by simp)) ?_
              go_wp2_with fail
              refine ⟨(jx_of (g := gA) (xs := (askL aB nB cB aC i cC off most)) Q9.out (by simp)), j_done (by kernel_rfl) ?_⟩
              go_wp2_with fail
              go_meet
              exact ⟨g9, c9, rfl, Q9.out⟩
          · go_wp2_with fail
            have K1 := Lib.hid (Rowss.new1 (r := ⟨24, 5, 1, .slice (some ⟨w4.heap.size, 0, none⟩) 1 1, btL mk78⟩) R4.out (one_b w4 R4.out.b.size) rfl)
            refine ⟨(jx_of (g := gA) (xs := (askL aB nB cB aC i cC off most)) K1.out (by simp)), ?_⟩
            refine j_one 0 _ rfl (by kernel_rfl) (jx_of (g := gA) (xs := (askL aB nB cB aC i cC off most)) K1.out (by simp)) ?_
            go_wp2_with fail
            have E2 := Lib.hid (Rowss.new1 (r := ⟨24, 5, 0, .slice (some ⟨w4.heap.size + 1, 0, none⟩) 0 0, []⟩) K1.out (by have q := empty_b (w4.alloc (.cells #[.float .f64 0, .float .f64 0, .float .f64 0, .int .i64 0, .int .i64 78] 24)) K1.out.b.size; rw [szN] at q; exact q) (by simp [Value.ownBlock]))
            refine ⟨(jx_of (g := gA) (xs := (askL aB nB cB aC i cC off most)) E2.out (by simp)), ?_⟩
            refine j_one 3 _ rfl (by kernel_rfl) (jx_of (g := gA) (xs := (askL aB nB cB aC i cC off most)) E2.out (by simp)) ?_
            refine wpList_append_any rfl (.tmp 46) (.tmp 48) 35 rfl W.heap.size 24 I2 Z2 5 40 Try.und35 hi2 hz2 hs2 hy2 hk2 (by decide) (.slice (some ⟨w4.heap.size + 1, 0, none⟩) 0 0) 0 [] rfl (rows_hd E2.out) aB nB cB (flB B) rfl NB.out fl (bt_src (HB.out.keep E2.out.b)) (flB_one _) (by simp only [maxLen]; omega) (by omega) E2.out.b.size ?_
            intro v7 w7 ow gr hat
            have P3 := Lib.hid (E2.out.grow1 gr ow hat)
            rw [List.nil_append, Nat.zero_add] at P3
            clear ow gr hat
            go_wp2_with fail
            refine ⟨(jx_of (g := gA) (xs := (askL aB nB cB aC i cC off most)) P3.out (by simp)), ?_⟩
            refine j_one 6 _ rfl (by kernel_rfl) (jx_of (g := gA) (xs := (askL aB nB cB aC i cC off most)) P3.out (by simp)) ?_
            refine wpList_append_own_at _ rfl (.tmp 49) (.tmp 51) 35 rfl W.heap.size 24 I2 Z2 5 40 Try.und35 hi2 hz2 hs2 hy2 hk2 (by decide) v7 nB (flB B) rfl (rows_hd P3.out) ⟨w4.heap.size, 0, none⟩ 1 1 (btL mk78) rfl rfl (fun j u h => (P3.out.own ⟨24, 5, 1, .slice (some ⟨w4.heap.size, 0, none⟩) 1 1, btL mk78⟩ (by simp)).cells (g := w4.heap.size) rfl j u h) (btL_one _) (by simp only [maxLen]; omega) (by omega) P3.out.b.size ?_
            intro v9 w9 ow gr _ hat
            have R9 := Lib.hid (Rowss.drop1 (Rowss.swap (P3.out.grow1 gr ow hat)))
            obtain ⟨g9, c9, rfl, q1, q2⟩ := own_pos ow (by omega)
            clear ow gr hat
            have Q9 : Hid (Rowss W w9 (rBt g9 nB c9 B :: rO u3 T :: rBox gA (askL aB nB cB aC i cC off most) :: T.map rQ)) := Lib.hid (by
              have q := R9.out
              have e : (⟨24, 5, nB + 1, .slice (some ⟨g9, 0, none⟩) (nB + 1) c9, flB B ++ btL mk78⟩ : Rw) = rBt g9 nB c9 B := by unfold rBt flB; simp
              rw [← e]; exact q)
            go_wp2_with fail
            refine ⟨(jx_of (g := gA) (xs := (askL aB nB cB aC i cC off most)) Q9.out (by simp)), ?_⟩
            have s16 := fun w => run_front35 g9 nB (nB + 1) c9 (by omega) (by omega) w
            refine j_one 10 _ rfl (by kernel_rfl) (jx_of (g := gA) (xs := (askL aB nB cB aC i cC off most)) Q9.out (by simp)) ?_
            go_wp2_with fail
            refine ⟨(jx_of (g := gA) (xs := (askL aB nB cB aC i cC off most)) Q9.out (by simp)), ?_⟩
            clear s16
            refine j_one 11 _ rfl (by kernel_rfl) (jx_of (g := gA) (xs := (askL aB nB cB aC i cC off most)) Q9.out (by simp)) ?_
            go_wp2_with fail
            refine ⟨(jx_of (g := gA) (xs := (askL aB nB cB aC i cC off most)) Q9.out (by simp)), j_done (by kernel_rfl) ?_⟩
            go_wp2_with fail
            go_meet
            exact ⟨g9, c9, rfl, Q9.out⟩
        case rest =>
          obtain ⟨gB, cb, rfl, hrw⟩ := hcut
          have R5 := Lib.hid hrw
          clear hrw RW
          obtain ⟨aO, cO, rfl, sc5⟩ := cells_sc (R5.out.own (rO u3 T) (by simp)) (rQ_own R5.out (fun t ht => List.mem_cons_of_mem _ (List.mem_cons_of_mem _ (List.mem_cons_of_mem _ (List.mem_map.2 ⟨t, ht, rfl⟩)))))
          rw [TL, TA.out] at sc5
          have SC5 := Lib.hid sc5
          have qB : wc.ownsRow W.heap.size 24 5 (.slice (some ⟨gB, 0, none⟩) (nB + 1) cb) (nB + 1) (flB (B ++ [mk78])) := R5.out.own (rBt gB nB cb B) (by simp)
          obtain ⟨gBe, cBe, eB, _, _, _, sb5, _⟩ := beats_sb qB HB.out.len HB.out.ok
          clear qB
          simp only [Value.slice.injEq, Option.some.injEq, Addr.mk.injEq, and_true, true_and] at eB
          obtain ⟨rfl, rfl⟩ := eB
          have SB5 := Lib.hid sb5
          clear sc5 sb5
          obtain ⟨⟨rl, rc⟩, hR⟩ : ∃ R, R = resW B LL off most := ⟨_, rfl⟩
          have HR := Lib.hid hR
          have RB : Hid (rl.length ≤ 65536) := Lib.hid (by have := res_len B LL off most; rw [← hR] at this; exact this)
          clear hR
          obtain ⟨jb, jc, jl⟩ := jx_of (g := gA) (xs := (askL aB nB cB aC i cC off most)) R5.out (by simp)
          have d0 := jc 0 _ rfl
          have d1 := jc 1 _ rfl
          have d2 := jc 2 _ rfl
          have d3 := jc 3 _ rfl
          clear jb jc
          rw [TL]
          go_wp2_with fail
          refine (rresolve_walk aB nB cB B aC i cC LL off most _ (HB.out.keep R5.out.b) (HC.out.keep R5.out.b)).mono ?_
          rintro e w6 ⟨vw, rfl, oww, bw⟩
          rw [← HR.out] at oww ⊢
          simp only at oww ⊢
          have R6 := Lib.hid (R5.out.call (r := rN vw rl.length rl) bw oww)
          have SC6 := Lib.hid (SC5.out.keep bw)
          have SB6 := Lib.hid (SB5.out.keep bw)
          clear oww bw R5 SC5 SB5 d0 d1 d2 d3 jl
          obtain ⟨jb, jc, jl⟩ := jx_of (g := gA) (xs := (askL aB nB cB aC i cC off most)) R6.out (by simp)
          have d2 := jc 2 _ rfl
          have d3 := jc 3 _ rfl
          clear jb jc
          go_wp2_with fail
          refine (resolve_walk (some ⟨gB, 0, none⟩) nB cb B aO i cO LL off most _ SB6.out SC6.out).mono ?_
          rintro e w7 ⟨v8, rfl, ow8, bw⟩
          rw [← HR.out] at ow8 ⊢
          simp only at ow8 ⊢
          have R7 := Lib.hid (R6.out.call (r := rN v8 rl.length rl) bw ow8)
          have SC7 := Lib.hid (SC6.out.keep bw)
          have SB7 := Lib.hid (SB6.out.keep bw)
          clear ow8 bw R6 SC6 SB6 d2 d3 jl
          obtain ⟨jb, jc, jl⟩ := jx_of (g := gA) (xs := (askL aB nB cB aC i cC off most)) R7.out (by simp)
          have d2 := jc 2 _ rfl
          have d3 := jc 3 _ rfl
          clear jb jc
          go_wp2_with fail
          refine (resolve_walk (some ⟨gB, 0, none⟩) nB cb B aO i cO LL off most _ SB7.out SC7.out).mono ?_
          rintro e w8 ⟨v10, rfl, ow10, bw⟩
          rw [← HR.out] at ow10 ⊢
          simp only at ow10 ⊢
          have R8 := Lib.hid (R7.out.call (r := rN v10 rl.length rl) bw ow10)
          clear ow10 bw R7 SC7 SB7 d2 d3 jl HR
          obtain ⟨N, hN⟩ : ∃ N, N = rl.length := ⟨_, rfl⟩
          rw [← hN] at R8
          have HN := Lib.hid hN
          have rN16 : Hid (rl.length ≤ 65536) := Lib.hid RB.out
          clear hN
          have qw : w8.ownsRow W.heap.size 2 1 vw N (rints rl) := R8.out.own (rN vw N rl) (by simp)
          have q8 : w8.ownsRow W.heap.size 2 1 v8 N (rints rl) := R8.out.own (rN v8 N rl) (by simp)
          have q10 : w8.ownsRow W.heap.size 2 1 v10 N (rints rl) := R8.out.own (rN v10 N rl) (by simp)
          obtain ⟨aw, cw, rfl, sw⟩ := sn_own qw
          obtain ⟨a8, c8, rfl, s8⟩ := sn_own q8
          obtain ⟨a10, c10, rfl, s10⟩ := sn_own q10
          have C1 := Lib.hid (sameints_walk a8 aw N c8 cw rl w8 s8 sw)
          have C2 := Lib.hid (fun w' (b : Below w8.heap.size w8 w') => sameints_walk a10 aw N c10 cw rl w' (s10.keep b) (sw.keep b))
          clear qw q8 q10 s8 s10 sw
          go_wp2_with fail
          refine C1.out.mono ?_
          rintro e w9 ⟨rfl, b9⟩
          have B9 := Lib.hid b9
          clear b9
          go_wp2_with fail
          refine (C2.out w9 B9.out).mono ?_
          rintro e w10 ⟨rfl, b10⟩
          have R10 := Lib.hid ((R8.out.below B9.out).below b10)
          clear b10 B9 C1 C2 R8
          have RS : Hid (Rowss W w10 (rZ (.slice a8 N c8) N (rints rl) :: rN (.slice a10 N c10) N rl :: rN (.slice aw N cw) N rl :: rBt gB nB cb B :: rO (.slice aO i cO) T :: rBox gA (askL aB nB cB aC i cC off most) :: T.map rQ)) := Lib.hid (by have q := R10.out.swap; rw [TL] at q; exact q)
          clear R10
          go_wp2_with fail
          go_loopw [12] (fun v12 wr => ∃ (j : Nat) (xs : List Value), v12 = .int .i64 j ∧ j ≤ N ∧ Rowss W wr (rZ (.slice a8 N c8) N xs :: rN (.slice a10 N c10) N rl :: rN (.slice aw N cw) N rl :: rBt gB nB cb B :: rO (.slice aO i cO) T :: rBox gA (askL aB nB cB aC i cC off most) :: T.map rQ)) (fun v12 _ => N - (intOf v12).toNat)
          case atStart => exact ⟨0, _, rfl, by omega, RS.out⟩
          case round =>
            clear RS
            obtain ⟨j, xs, rfl, hj, hrw⟩ := hrel
            have RX := Lib.hid hrw
            clear hrw
            obtain ⟨w11, e11⟩ : ∃ y, y = wr := ⟨_, rfl⟩
            rw [← e11] at RX ⊢
            clear e11
            by_cases hlt : j < N
            · have j1 : (j : Int) < (N : Int) := by omega
              obtain ⟨g8, c8', e8, _, _⟩ := own_pos (rows_hd RX.out) (by show 0 < N; omega)
              simp only [rZ, Value.slice.injEq, true_and] at e8
              obtain ⟨rfl, rfl⟩ := e8
              have qz : w11.ownsRow W.heap.size 2 1 (.slice (some ⟨g8, 0, none⟩) N c8) N xs := rows_hd RX.out
              obtain ⟨_, _, _, z8, cz, fz⟩ := own_g qz (by omega)
              have xl := qz.1
              have cj := cz j _ (List.getElem?_eq_getElem (by omega))
              have fj := fz j
              clear cz fz
              go_wp2_with fail
              have R12 := Lib.hid (Rowss.set1 RX.out rfl (only_set w11 g8 j (.int .i64 (-5))) (own_seti qz hlt))
              clear qz cj fj RX
              go_roundw
              case rel => exact ⟨j + 1, _, by go_num, by omega, R12.out⟩
              case measure => simp only [intOf]; omega
            · obtain rfl : j = N := by omega
              have RB := Lib.hid RX.out
              clear RX
              go_wp2_with fail
              go_loopw [8, 13] (fun v8 v13 wr => ∃ (t : Nat) (ys : List Value), v13 = .int .i64 t ∧ t ≤ 20 ∧ Rowss W wr (rZ v8 (j + t) ys :: rN (.slice a10 j c10) j rl :: rN (.slice aw j cw) j rl :: rBt gB nB cb B :: rO (.slice aO i cO) T :: rBox gA (askL aB nB cB aC i cC off most) :: T.map rQ)) (fun _ v13 _ => 20 - (intOf v13).toNat)
              case atStart => exact ⟨0, _, rfl, by omega, RB.out⟩
              case round =>
                clear RB
                obtain ⟨t, ys, rfl, ht, hrw⟩ := hrel
                have RX := Lib.hid hrw
                clear hrw
                obtain ⟨w12, e12⟩ : ∃ y, y = wr := ⟨_, rfl⟩
                rw [← e12] at RX ⊢
                clear e12
                by_cases hlt2 : t < 20
                · have t1 : (t : Int) < 20 := by omega
                  have zb := RX.out.b.size
                  have X9 := Lib.hid (RX.out.below (al_below w12 (.cells #[.int .i64 (-6)] 2)))
                  have jN := rN16.out
                  rw [← HN.out] at jN
                  go_wp2_with (refine wpList_append_own_at _ rfl (.tmp 122) (.tmp 123) 39 rfl W.heap.size 2 I1 Z1 1 8 Try.und39 hi1 hz1 hs1 hy1 hk1 (by decide) u8 (j + t) ys rfl (rows_hd X9.out) ⟨w12.heap.size, 0, none⟩ 1 1 [.int .i64 (-6)] rfl rfl (cell_one_new w12 _ _) (by simp [Value.oneCell']) (by simp only [maxLen]; omega) (by omega) (by first | (simp; done) | (simp; omega)) ?_; intro v13b w13 ow gr _ hat; have R13 := Lib.hid (Rowss.grow1 X9.out gr ow hat); clear ow gr hat)
                  clear X9 RX
                  go_roundw
                  case rel => exact ⟨t + 1, _, by go_num, by omega, R13.out⟩
                  case measure => simp only [intOf]; omega
                · obtain rfl : t = 20 := by omega
                  have q8 : w12.ownsRow W.heap.size 2 1 u8 (j + 20) ys := rows_hd RX.out
                  obtain ⟨a8b, c8b, rfl, _, _⟩ := own_form' q8
                  clear q8
                  have R12 := Lib.hid RX.out.drop1
                  clear RX
                  obtain ⟨jb, jc, jl⟩ := jx_of (g := gA) (xs := (askL aB nB cB aC i cC off most)) R12.out (by simp)
                  have d1 := jc 1 _ rfl
                  have d0 := jc 0 _ rfl
                  clear jb jc
                  go_wp2_with fail
                  go_loopw [14] (fun v14 wr => ∃ p : Nat, v14 = .int .i64 p ∧ p ≤ i ∧ Below w12.heap.size w12 wr) (fun v14 _ => i - (intOf v14).toNat)
                  case atStart => exact ⟨0, rfl, by omega, Below.refl _ _⟩
                  case round =>
                    obtain ⟨p, rfl, hp, hb13⟩ := hrel
                    have B13 := Lib.hid hb13
                    clear hb13
                    obtain ⟨w13, e13⟩ : ∃ y, y = wr := ⟨_, rfl⟩
                    rw [← e13] at B13 ⊢
                    clear e13
                    have d1 := (B13.out.cell (p := ⟨gA, 1, none⟩) jl).trans d1
                    have d0 := (B13.out.cell (p := ⟨gA, 0, none⟩) jl).trans d0
                    have jl := Nat.lt_of_lt_of_le jl B13.out.size
                    by_cases hlt3 : p < i
                    · have p1 : (p : Int) < (i : Int) := by omega
                      have R13 := Lib.hid (R12.out.below B13.out)
                      obtain ⟨tp, htp⟩ : ∃ tp, T[p]? = some tp := ⟨_, List.getElem?_eq_getElem (by omega)⟩
                      obtain ⟨bc, oc, C, a', c', rfl, hbc, hcx, cc0, sn⟩ := (HC.out.keep R13.out.b).at hlt3
                      have eC : tp.C = C := by
                        have h1 : (T.map (·.C))[p]? = some tp.C := by rw [List.getElem?_map, htp]; rfl
                        rw [TA.out, hcx] at h1
                        exact (Option.some.inj h1).symm
                      have qO : w13.ownsRow W.heap.size 39 1 (.slice aO i cO) T.length (T.map sv) := R13.out.own (rO (.slice aO i cO) T) (by simp)
                      rw [TL] at qO
                      obtain ⟨gO, cO', eO, _, _⟩ := own_pos qO (by omega)
                      simp only [Value.slice.injEq, true_and] at eO
                      obtain ⟨rfl, rfl⟩ := eO
                      obtain ⟨_, _, _, zO, cO2, _⟩ := own_g qO (by omega)
                      have o0 := cO2 p (sv tp) (by rw [List.getElem?_map, htp]; rfl)
                      obtain ⟨snm, m1, m2, m3, m4⟩ := cm_sn (R13.out.own (rQ tp) (List.mem_cons_of_mem _ (List.mem_cons_of_mem _ (List.mem_cons_of_mem _ (List.mem_cons_of_mem _ (List.mem_cons_of_mem _ (List.mem_map.2 ⟨tp, List.mem_of_getElem? htp, rfl⟩)))))))
                      obtain ⟨tg, tcap, tC⟩ := tp
                      simp only at eC
                      subst eC
                      unfold sv at o0
                      simp only at o0 snm m1 m2 m3 m4
                      have CS := Lib.hid (fun w' (b : Below w13.heap.size w13 w') => sameints_walk (some ⟨tg, 0, none⟩) a' tC.length tcap c' tC w' (snm.keep b) (sn.keep b))
                      obtain ⟨M, hM⟩ : ∃ M, M = tC.length := ⟨_, rfl⟩
                      rw [← hM] at o0 m1 m4 cc0 CS
                      have rs2 : ∀ w : World, (Instr.slice 39 (.slice (some ⟨tg, 0, none⟩) M tcap) none (some (.int .i64 ((M : Int) + 1))) none).run Try.prog w = .ok (.slice (some ⟨tg, 0, none⟩) (M + 1) tcap) w := fun w => by
                        have := run_front39 tg (M + 1) M tcap m1 (by omega) w
                        simpa using this
                      have wM : IntKind.i64.wrap ((M : Int) + 1) = (M : Int) + 1 := IntWalk.i64_in _ (by omega)
                      have MM : (M : Int) < (M : Int) + 1 := by omega
                      clear snm sn hcx htp hM qO cO2
                      go_upto_region 26 with fail
                      go_cut [160] from 137 to 160 (fun v wx => v = .bool false ∧ Below w13.heap.size w13 wx)
                      case first =>
                        refine wp_region_J 24 (fun x => Below w13.heap.size w13 x) (by kernel_rfl) rfl (by kernel_rfl) ((Below.refl _ w13).drew) (fun wj hJ hs => ?_)
                        have HJ := Lib.hid hJ
                        clear hJ
                        (refine j_take 0 _ ?_ hs rfl rfl (by kernel_rfl) (by kernel_rfl) HJ.out (fun w' hw' => ?_) ?_; rotate_left; (· skip; go_simp; rfl); (go_simp))
                        (refine j_take 1 _ ?_ hs rfl rfl (by kernel_rfl) (by kernel_rfl) HJ.out (fun w' hw' => ?_) ?_; rotate_left; (· skip; go_simp; rfl); (go_simp))
                        (refine j_take 2 _ ?_ hs rfl rfl (by kernel_rfl) (by kernel_rfl) HJ.out (fun w' hw' => ?_) ?_; rotate_left; (· skip; go_simp; rfl); (go_simp))
                        (refine j_take 3 _ ?_ hs rfl rfl (by kernel_rfl) (by kernel_rfl) HJ.out (fun w' hw' => ?_) ?_; rotate_left; (· have d := (hw'.cell (p := ⟨gO, p, none⟩) zO).trans o0; go_simp; rfl); (go_simp))
                        (refine j_take 4 _ ?_ hs rfl rfl (by kernel_rfl) (by kernel_rfl) HJ.out (fun w' hw' => ?_) ?_; rotate_left; (· skip; go_simp; rfl); (go_simp))
                        (refine j_take 5 _ ?_ hs rfl rfl (by kernel_rfl) (by kernel_rfl) HJ.out (fun w' hw' => ?_) ?_; rotate_left; (· have d := (hw'.cell (p := ⟨gA, 1, none⟩) jl).trans d1; go_simp; rfl); (go_simp))
                        (refine j_take 6 _ ?_ hs rfl rfl (by kernel_rfl) (by kernel_rfl) HJ.out (fun w' hw' => ?_) ?_; rotate_left; (· skip; go_simp; rfl); (go_simp))
                        (refine j_take 7 _ ?_ hs rfl rfl (by kernel_rfl) (by kernel_rfl) HJ.out (fun w' hw' => ?_) ?_; rotate_left; (· skip; go_simp; rfl); (go_simp))
                        (refine j_take 8 _ ?_ hs rfl rfl (by kernel_rfl) (by kernel_rfl) HJ.out (fun w' hw' => ?_) ?_; rotate_left; (· have d := (hw'.cell (p := ⟨bc, oc + p, none⟩) hbc).trans cc0; go_simp; rfl); (go_simp))
                        refine j_one 9 _ rfl (by kernel_rfl) HJ.out ?_
                        go_wp2_with fail
                        refine (CS.out _ HJ.out).mono ?_
                        rintro e wq ⟨rfl, bq⟩
                        have HJ := Lib.hid (HJ.out.trans (bq.mono HJ.out.size))
                        clear bq
                        go_wp2_with fail
                        refine ⟨HJ.out, ?_⟩
                        (refine j_take 10 _ ?_ hs rfl rfl (by kernel_rfl) (by kernel_rfl) HJ.out (fun w' hw' => ?_) ?_; rotate_left; (· skip; go_simp; rfl); (go_simp))
                        (refine j_take 11 _ ?_ hs rfl rfl (by kernel_rfl) (by kernel_rfl) HJ.out (fun w' hw' => ?_) ?_; rotate_left; (· skip; go_simp; rfl); (go_simp))
                        (refine j_take2 12 _ ?_ hs rfl (by kernel_rfl) (by kernel_rfl) HJ.out ?_ (fun w' hw' => ?_) ?_; rotate_left; (· go_simp); (· skip; go_simp; rfl); (go_simp))
                        (refine j_take2 13 _ ?_ hs rfl (by kernel_rfl) (by kernel_rfl) HJ.out ?_ (fun w' hw' => ?_) ?_; rotate_left; (· go_simp); (· skip; go_simp; rfl); (go_simp))
                        (refine j_take2 14 _ ?_ hs rfl (by kernel_rfl) (by kernel_rfl) HJ.out ?_ (fun w' hw' => ?_) ?_; rotate_left; (· go_simp); (· skip; go_simp; rfl); (go_simp))
                        (refine j_take2 15 _ ?_ hs rfl (by kernel_rfl) (by kernel_rfl) HJ.out ?_ (fun w' hw' => ?_) ?_; rotate_left; (· go_simp); (· have d := (hw'.cell (p := ⟨gO, p, none⟩) zO).trans o0; go_simp; rfl); (go_simp))
                        (refine j_take2 16 _ ?_ hs rfl (by kernel_rfl) (by kernel_rfl) HJ.out ?_ (fun w' hw' => ?_) ?_; rotate_left; (· go_simp); (· skip; go_simp; rfl); (go_simp))
                        (refine j_take2 17 _ ?_ hs rfl (by kernel_rfl) (by kernel_rfl) HJ.out ?_ (fun w' hw' => ?_) ?_; rotate_left; (· go_simp); (· skip; go_simp; rfl); (go_simp))
                        (refine j_take2 18 _ ?_ hs rfl (by kernel_rfl) (by kernel_rfl) HJ.out ?_ (fun w' hw' => ?_) ?_; rotate_left; (· go_simp); (· skip; go_simp; rfl); (go_simp))
                        (refine j_take2 19 _ ?_ hs rfl (by kernel_rfl) (by kernel_rfl) HJ.out ?_ (fun w' hw' => ?_) ?_; rotate_left; (· go_simp); (· skip; go_simp; rfl); (go_simp))
                        (refine j_take2 20 _ ?_ hs rfl (by kernel_rfl) (by kernel_rfl) HJ.out ?_ (fun w' hw' => ?_) ?_; rotate_left; (· go_simp); (· skip; go_simp; rfl); (go_simp))
                        (refine j_take2 21 _ ?_ hs rfl (by kernel_rfl) (by kernel_rfl) HJ.out ?_ (fun w' hw' => ?_) ?_; rotate_left; (· go_simp); (· have d := (hw'.cell (p := ⟨tg, M, none⟩) m3).trans m4; go_simp; rfl); (go_simp))
                        (refine j_take2 22 _ ?_ hs rfl (by kernel_rfl) (by kernel_rfl) HJ.out ?_ (fun w' hw' => ?_) ?_; rotate_left; (· go_simp); (· skip; go_simp; rfl); (go_simp))
                        (refine j_take 23 _ ?_ hs rfl rfl (by kernel_rfl) (by kernel_rfl) HJ.out (fun w' hw' => ?_) ?_; rotate_left; (· skip; go_simp; rfl); (go_simp))
                        refine j_done (by kernel_rfl) ?_
                        go_wp2_with fail
                        go_meet
                        exact ⟨rfl, HJ.out⟩
                      case rest =>
                        obtain ⟨rfl, bb⟩ := hcut
                        have B14 := Lib.hid (B13.out.trans (bb.mono B13.out.size))
                        clear bb
                        go_wp2_with fail
                        go_roundw
                        case rel => exact ⟨p + 1, by go_num, by omega, B14.out⟩
                        case measure => simp only [intOf]; omega
                    · obtain rfl : p = i := by omega
                      have R13 := Lib.hid (R12.out.below B13.out)
                      have q10 : w13.ownsRow W.heap.size 2 1 (.slice a10 j c10) j (rints rl) := R13.out.own (rN (.slice a10 j c10) j rl) (by simp)
                      have qw : w13.ownsRow W.heap.size 2 1 (.slice aw j cw) j (rints rl) := R13.out.own (rN (.slice aw j cw) j rl) (by simp)
                      have qB : w13.ownsRow W.heap.size 24 5 (.slice (some ⟨gB, 0, none⟩) (nB + 1) cb) (nB + 1) (flB (B ++ [mk78])) := R13.out.own (rBt gB nB cb B) (by simp)
                      obtain ⟨a10', c10', e10, s10⟩ := sn_own q10
                      simp only [Value.slice.injEq, true_and] at e10
                      obtain ⟨rfl, rfl⟩ := e10
                      obtain ⟨aw', cw', ew, sw⟩ := sn_own qw
                      simp only [Value.slice.injEq, true_and] at ew
                      obtain ⟨rfl, rfl⟩ := ew
                      obtain ⟨gBe, cBe, eB, m1, m2, m3, _, m4⟩ := beats_sb qB HB.out.len HB.out.ok
                      simp only [Value.slice.injEq, Option.some.injEq, Addr.mk.injEq, and_true, true_and] at eB
                      obtain ⟨rfl, rfl⟩ := eB
                      have C3 := Lib.hid (sameints_walk a10 aw j c10 cw rl w13 s10 sw)
                      have jN := rN16.out
                      rw [← HN.out] at jN
                      have rs2 : ∀ w : World, (Instr.slice 35 (.slice (some ⟨gB, 0, none⟩) nB cb) none (some (.int .i64 ((nB : Int) + 1))) none).run Try.prog w = .ok (.slice (some ⟨gB, 0, none⟩) (nB + 1) cb) w := fun w => by
                        have := run_front35 gB (nB + 1) nB cb m1 (by omega) w
                        simpa using this
                      have wM : IntKind.i64.wrap ((nB : Int) + 1) = (nB : Int) + 1 := IntWalk.i64_in _ (by omega)
                      have MM : (nB : Int) < (nB : Int) + 1 := by omega
                      have wJ : IntKind.i64.wrap ((j : Int) + 20) = (j : Int) + 20 := IntWalk.i64_in _ (by omega)
                      have BB := Lib.hid R13.out.b
                      clear s10 sw q10 qw qB R12 R13 B13
                      go_wp2_with fail
                      refine C3.out.mono ?_
                      rintro e w14 ⟨rfl, b14⟩
                      have m4 := (b14.cell (p := ⟨gB, nB * 5 + 4, none⟩) m3).trans m4
                      have m3 := Nat.lt_of_lt_of_le m3 b14.size
                      have B14 := Lib.hid (BB.out.trans (b14.mono BB.out.size))
                      clear b14 C3 d0 d1
                      go_wp2_with fail
                      refine (wakes_walk _).mono ?_
                      rintro e w15 ⟨rfl, b15⟩
                      have B15 := Lib.hid (B14.out.trans (b15.mono B14.out.size))
                      clear b15
                      go_wp2_with fail
                      go_ret
                      exact ⟨rfl, B15.out⟩
end Go.Proofs.Ytdngkeefbpffcaa
