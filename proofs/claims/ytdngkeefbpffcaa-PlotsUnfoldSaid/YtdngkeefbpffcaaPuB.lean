import Derived.Test.YtdngkeefbpffcaaPuA
import Derived.Deep.DeepCutAuto
import Derived.Deep.CutBlock
set_option autoImplicit false
set_option linter.unusedVariables false
namespace Go.Proofs.Ytdngkeefbpffcaa
open Go.RowKit Go.ChangeShapes Go.WideShapes Go.ChangeAt Lk Rs Pl
/-- a beat in a block of its own -/
def rG (g : Nat) (n : Int) : Rw := ⟨24, 5, 1, .slice (some ⟨g, 0, none⟩) 1 1, btL (grd n)⟩
theorem perm2 (x y a b : Rw) (F : List Rw) : ([x, y, a] ++ b :: F).Perm (y :: ([a, b] ++ (F ++ [x]))) := by
  simp only [List.cons_append, List.nil_append]
  refine (List.perm_append_singleton x (y :: a :: b :: F)).symm.trans ?_
  simp
/-- the lists that the law writes -/
structure U2 (w wr : World) (X o : Int) (vB vC : Value) (L : List Ask1) (T : List Ce) (k : Nat) : Prop where
  r : Rowss w wr ([rB vB L, rC vC T] ++ T.map rT)
  tl : T.map (·.C) = L.map (·.C)
  len : L.length = k
  ok : ∀ a ∈ L, okA X o a
set_option maxRecDepth 100000 in
set_option maxHeartbeats 4000000 in
theorem unf_law (x : Int) (aA : Option Addr) (nA kA : Nat) (A : List Int) (aB : Option Addr) (nB kB : Nat) (B : List Int) (aC : Option Addr) (nC kC : Nat) (CC : List (List Int)) (off : Int) (w : World)
    (hA : SN w aA nA kA A) (hB : SN w aB nB kB B) (hC : SC w aC nC kC CC) :
    Calls Try.prog 5 #[.int .i64 x, .slice aA nA kA, .slice aB nB kB, .slice aC nC kC, .int .i64 off] w (fun e w' => e = .returned (.bool true) ∧ Below w.heap.size w w') := by
  have HA := Lib.hid hA
  have HB := Lib.hid hB
  have HC := Lib.hid hC
  have a64 := hA.le
  have b64 := hB.le
  have c64 := hC.le
  have a65 := hA.small
  have b65 := hB.small
  have c65 := hC.small
  clear hA hB hC
  obtain ⟨I1, Z1, hi1, hz1, hs1, hy1, hk1⟩ := rs_info rs_int_info
  obtain ⟨I2, Z2, hi2, hz2, hs2, hy2, hk2⟩ := rs_info rs_bt_info
  obtain ⟨I3, Z3, hi3, hz3, hs3, hy3, hk3⟩ := rs_info rs_si_info
  have eo1 := Int.emod_nonneg off (b := 30) (by omega)
  have eo2 := Int.emod_lt_of_pos off (b := 30) (by omega)
  have ex1 := Int.emod_nonneg x (b := 4096) (by omega)
  have ex2 := Int.emod_lt_of_pos x (b := 4096) (by omega)
  obtain ⟨o, ho⟩ : ∃ o, off % 30 = o := ⟨_, rfl⟩
  obtain ⟨X, hX⟩ : ∃ X, x % 4096 = X := ⟨_, rfl⟩
  rw [ho] at eo1 eo2
  rw [hX] at ex1 ex2
  have HO := Lib.hid ho
  have HX := Lib.hid hX
  clear ho hX
  go_enter Try.func5, Try.ntmps5
  go_wp2_with fail
  refine (mod_walk off 30 (by omega) (by omega) _).mono ?_
  rintro e w1 ⟨rfl, rfl⟩
  rw [HO.out]
  go_wp2_with fail
  refine (mod_walk x 4096 (by omega) (by omega) _).mono ?_
  rintro e w1 ⟨rfl, rfl⟩
  rw [HX.out]
  go_upto_block 0 with fail
  go_cut [11, 12] (fun vB vC wx => ∃ (L : List Ask1) (T : List Ce) (k : Nat), k ≤ 5 ∧ U2 w wx X o vB vC L T k)
  case first =>
    go_wp2_with fail
    go_loopw [11, 12, 13] (fun vB vC i wr => ∃ (L : List Ask1) (T : List Ce) (k : Nat), i = .int .i64 k ∧ k ≤ 5 ∧ k ≤ nA ∧ U2 w wr X o vB vC L T k) (fun _ _ i _ => 6 - (intOf i).toNat)
    case atStart => exact ⟨[], [], 0, rfl, by omega, by omega, ⟨((Rowss.nil (Below.refl _ w)).none1 _ _).none1 _ _, rfl, rfl, fun a ha => by cases ha⟩⟩
    case round =>
      obtain ⟨L, T, k, rfl, k5, kA1, R⟩ := hrel
      have HR := Lib.hid R
      clear R
      have fin : Hid (∃ (L : List Ask1) (T : List Ce) (k : Nat), k ≤ 5 ∧ U2 w wr X o u11 u12 L T k) := Lib.hid ⟨L, T, k, k5, HR.out⟩
      by_cases hall : k < nA ∧ k < 5
      · obtain ⟨g1, g2⟩ := hall
        clear fin
        obtain ⟨b1, o1, ev, rfl, l1, hx1, c1⟩ := HA.out.at g1
        have cc := (HR.out.r.b.cell (p := ⟨b1, o1 + k, none⟩) l1).trans c1
        have ll := Nat.lt_of_lt_of_le l1 HR.out.r.b.size
        have g2i : (k : Int) < 5 := by omega
        have nb1 := Int.emod_nonneg ev (b := 500) (by omega)
        have nb2 := Int.emod_lt_of_pos ev (b := 500) (by omega)
        obtain ⟨n0, hn⟩ : ∃ n0, n0 = ev % 500 := ⟨_, rfl⟩
        rw [← hn] at nb1 nb2
        have HN := Lib.hid hn
        obtain ⟨w7, e7⟩ : ∃ w7, w7 = wr := ⟨_, rfl⟩
        subst e7
        clear hx1 c1 l1 hn
        go_wp2_with fail
        refine (mod_walk ev 500 (by omega) (by omega) _).mono ?_
        rintro e w2 ⟨rfl, rfl⟩
        rw [← HN.out]
        go_wp2_with fail
        obtain ⟨n, hn⟩ : ∃ n, n = n0 + 1 := ⟨_, rfl⟩
        rw [← hn]
        refine (beat_walk n _).mono ?_
        rintro e w2 ⟨rfl, b2⟩
        have nn : 1 ≤ n ∧ n ≤ 500 := by omega
        clear nb1 nb2 hn HN cc ll
        have R8 : Hid (Rowss w (w2.alloc (.cells #[.float .f64 4621819117588971520, .float .f64 4602678819172646912, .float .f64 4652007308841189376, .int .i64 n, .int .i64 4] 24)) (rG w2.heap.size n :: ([rB u11 L, rC u12 T] ++ T.map rT))) := Lib.hid (by
          have h0 := HR.out.r.below b2
          have zz := h0.b.size
          exact h0.new1 (r := rG w2.heap.size n) ⟨rfl, .inr ⟨_, 1, _, rfl, zz, Deep.blk_alloc_new _ _, Nat.le_refl _, by decide, rfl, rfl⟩⟩ rfl)
        clear b2
        go_upto_if 46 with fail
        obtain ⟨gb, hgb⟩ : ∃ g, g = w2.heap.size := ⟨_, rfl⟩
        obtain ⟨w8, hw8⟩ : ∃ y, y = (w2.alloc (.cells #[.float .f64 4621819117588971520, .float .f64 4602678819172646912, .float .f64 4652007308841189376, .int .i64 n, .int .i64 4] 24)) := ⟨_, rfl⟩
        rw [← hw8] at R8 ⊢
        rw [← hgb] at R8 ⊢
        clear hgb hw8
        go_cut [15] (fun s15 wx => ∃ d : Int, s15 = .int .i64 d ∧ -o ≤ d ∧ d ≤ o ∧ wx = w8)
        case first =>
          by_cases gB : k < nB
          · obtain ⟨b2, o2, y, rfl, l2, hx2, c2⟩ := HB.out.at gB
            have cc2 := (R8.out.b.cell (p := ⟨b2, o2 + k, none⟩) l2).trans c2
            have ll2 := Nat.lt_of_lt_of_le l2 R8.out.b.size
            have ys1 := Int.emod_nonneg y (b := 2 * o + 1) (by omega)
            have ys2 := Int.emod_lt_of_pos y (b := 2 * o + 1) (by omega)
            obtain ⟨z, hz⟩ : ∃ z, z = y % (2 * o + 1) := ⟨_, rfl⟩
            rw [← hz] at ys1 ys2
            have HZ := Lib.hid hz
            clear hx2 c2 l2 hz
            go_wp2_with fail
            refine (mod_walk y (2 * o + 1) (by omega) (by omega) _).mono ?_
            rintro e w2 ⟨rfl, rfl⟩
            rw [← HZ.out]
            go_wp2_with fail
            go_meet
            exact ⟨z - o, rfl, by omega, by omega, rfl⟩
          · go_wp2_with fail
            go_meet
            exact ⟨0, rfl, by omega, by omega, rfl⟩
        case rest =>
          obtain ⟨d, rfl, d1, d2, rfl⟩ := hcut
          obtain ⟨w9, e9⟩ : ∃ y, y = wc := ⟨_, rfl⟩
          rw [← e9] at R8 ⊢
          clear e9
          go_upto_block 2 with fail
          go_cut [16, 17] (fun v16 v17 wx => ∃ (D : List Int), D.length ≤ 20 ∧ Rowss w wx (rT ⟨v16, D⟩ :: rG gb n :: ([rB u11 L, rC u12 T] ++ T.map rT)))
          case first =>
            have rd0 : Rowss w w9 (rT ⟨.slice none 0 0, []⟩ :: rG gb n :: ([rB u11 L, rC u12 T] ++ T.map rT)) := R8.out.none1 _ _
            have RD0 := Lib.hid rd0
            clear rd0
            go_wp2_with fail
            go_loopw [16, 17] (fun v16 i wr => ∃ (q : Nat) (D : List Int), i = .int .i64 q ∧ q ≤ 20 ∧ D.length = q ∧ Rowss w wr (rT ⟨v16, D⟩ :: rG gb n :: ([rB u11 L, rC u12 T] ++ T.map rT))) (fun _ i _ => 20 - (intOf i).toNat)
            case atStart => exact ⟨0, [], rfl, by omega, rfl, RD0.out⟩
            case round =>
              obtain ⟨q, D, rfl, hq, hD, hr⟩ := hrel
              have RD := Lib.hid hr
              obtain ⟨aD, cD, eD, _, _⟩ := own_form' (hr.own _ (List.mem_cons_self ..))
              simp only [rT] at eD
              rw [hD] at eD
              subst eD
              have HD := Lib.hid hD
              have out : Hid (∃ (D : List Int), D.length ≤ 20 ∧ Rowss w wr (rT ⟨.slice aD q cD, D⟩ :: rG gb n :: ([rB u11 L, rC u12 T] ++ T.map rT))) := Lib.hid ⟨D, by rw [hD]; exact hq, hr⟩
              clear hr hD RD0
              by_cases gC : k < nC
              · obtain ⟨b3, o3, C, a', c', rfl, hb3, hx3, cc3, sn⟩ := HC.out.at gC
                have cc4 := (RD.out.b.cell (p := ⟨b3, o3 + k, none⟩) hb3).trans cc3
                have ll4 := Nat.lt_of_lt_of_le hb3 RD.out.b.size
                have SN := Lib.hid sn
                have z1 := sn.le
                have z2 := sn.small
                have kC : (k : Int) < (nC : Int) := by omega
                obtain ⟨nn3, hn3⟩ : ∃ m, m = C.length := ⟨_, rfl⟩
                rw [← hn3] at cc4 SN z1
                clear sn cc3 hx3 hn3
                by_cases hqc : q < nn3
                · have qC : (q : Int) < (nn3 : Int) := by omega
                  by_cases h20 : q < 20
                  · obtain ⟨b5, o5, y, rfl, l5, hx5, c5⟩ := SN.out.at hqc
                    have c6 := (RD.out.b.cell (p := ⟨b5, o5 + q, none⟩) l5).trans c5
                    have l6 := Nat.lt_of_lt_of_le l5 RD.out.b.size
                    have zw := RD.out.b.size
                    have q20 : (q : Int) < 20 := by omega
                    have R2 := Lib.hid (RD.out.below (al_below wr (.cells #[.int .i64 y] 2)))
                    have DQ : D.length = q := HD.out
                    clear out hx5 c5
                    go_wp2_with (((with_reducible refine wpList_append_own_at _ ?g2 (.tmp 76) (.tmp 84) 39 ?g3 w.heap.size 2 I1 Z1 1 8 Try.undIn hi1 hz1 hs1 hy1 hk1 ?g4 (.slice aD q cD) q (rints D) ?g5 ?g6 ⟨wr.heap.size, 0, none⟩ 1 1 [.int .i64 y] ?g7 ?g8 ?g9 ?g10 ?g11 ?g12 ?g13 ?_); (case g2 => rfl); (case g3 => rfl); (case g4 => decide); (case g5 => rfl); (case g6 => exact (by have := R2.out.own (rT ⟨.slice aD q cD, D⟩) (by simp); simpa [rT, DQ] using this)); (case g7 => rfl); (case g8 => rfl); (case g9 => exact (i_cells (Deep.blk_alloc_new wr _))); (case g10 => exact (i_one _)); (case g11 => (simp only [maxLen]; omega)); (case g12 => omega); (case g13 => (simp; omega)); intro v9 wn ow gr _ hat; have R3 : Hid (Rowss w wn (rT ⟨v9, D ++ [y]⟩ :: rG gb n :: ([rB u11 L, rC u12 T] ++ T.map rT))) := Lib.hid (by rw [rT_snoc]; exact Rowss.grow (A := []) (r := rT ⟨.slice aD q cD, D⟩) R2.out gr (by simpa [rT, DQ] using ow) hat); clear ow gr hat))
                    go_roundw
                    case rel => exact ⟨q + 1, D ++ [y], by go_num, by omega, by rw [List.length_append, HD.out]; rfl, R3.out⟩
                    case measure => simp only [intOf]; omega
                  · have q20 : ¬ (q : Int) < 20 := by omega
                    clear h20
                    go_wp2_with fail
                    go_meet
                    exact out.out
                · have qC : ¬ (q : Int) < (nn3 : Int) := by omega
                  clear hqc
                  go_wp2_with fail
                  go_meet
                  exact out.out
              · have kC : ¬ (k : Int) < (nC : Int) := by omega
                clear gC
                go_wp2_with fail
                go_meet
                exact out.out
          case rest =>
            obtain ⟨D, hD20, rd⟩ := hcut
            obtain ⟨a16, c16, e16, _, _⟩ := own_form' (rd.own _ (List.mem_cons_self ..))
            simp only [rT] at e16
            obtain ⟨q, hq⟩ : ∃ q, q = D.length := ⟨_, rfl⟩
            rw [← hq] at e16 hD20
            subst e16
            have HQ := Lib.hid hq
            have DQ : Hid (D.length = q) := Lib.hid hq.symm
            have RD := Lib.hid rd
            have L5 : L.length ≤ 5 := by rw [HR.out.len]; omega
            have T5 : T.length ≤ 5 := by have := congrArg List.length HR.out.tl; rw [List.length_map, List.length_map] at this; omega
            have zc := rd.b.size
            have gG := rd.own (rG gb n) (by simp)
            have gl := (gG.lt gb rfl).2
            have gc := fun j u h => gG.cells (g := gb) rfl j u h
            have b0 := gc 0 _ rfl
            have b1' := gc 1 _ rfl
            have b2' := gc 2 _ rfl
            have b3' := gc 3 _ rfl
            have b4' := gc 4 _ rfl
            simp only [Addr.add_lit, Nat.zero_add, grd] at b0 b1' b2' b3' b4'
            have xn : Int.emod X n = X % n := rfl
            have xb0 := Int.emod_nonneg X (b := n) (by omega)
            have xb1 := Int.emod_lt_of_pos X (b := n) (by omega)
            obtain ⟨XN, hXN⟩ : ∃ XN, XN = X % n := ⟨_, rfl⟩
            rw [← hXN] at xb0 xb1
            have HXN := Lib.hid hXN
            have R2 := Lib.hid (RD.out.below (al_below wc (.cells #[.float .f64 4621819117588971520, .float .f64 4602678819172646912, .float .f64 4652007308841189376, .int .i64 n, .int .i64 4] 24)))
            clear rd gG gc hq hXN R8 xn
            go_wp2_with (((with_reducible refine wpList_append_own_at _ ?g2 (.tmp 86) (.tmp 88) 35 ?g3 w.heap.size 24 I2 Z2 5 40 Try.undBt hi2 hz2 hs2 hy2 hk2 ?g4 u11 L.length (flatB L) ?g5 ?g6 ⟨wc.heap.size, 0, none⟩ 1 1 (btL (grd n)) ?g7 ?g8 ?g9 ?g10 ?g11 ?g12 ?g13 ?_); (case g2 => rfl); (case g3 => rfl); (case g4 => decide); (case g5 => rfl); (case g6 => exact (R2.out.own (rB u11 L) (by simp))); (case g7 => rfl); (case g8 => rfl); (case g9 => exact (bt_cells (Deep.blk_alloc_new wc _))); (case g10 => exact (bt_one n)); (case g11 => (simp only [maxLen]; omega)); (case g12 => omega); (case g13 => (simp; omega)); intro v3 w3 ow gr _ hat; have R3 : Hid (Rowss w w3 ([rT ⟨.slice a16 q c16, D⟩, rG gb n] ++ rB v3 (L ++ [⟨n, D ++ [XN + d]⟩]) :: ([rC u12 T] ++ T.map rT))) := Lib.hid (by rw [rB_snoc]; exact Rowss.grow (A := [rT ⟨.slice a16 q c16, D⟩, rG gb n]) (r := rB u11 L) R2.out gr ow hat); have gG := R3.out.own (rG gb n) (by simp); have gl3 := (gG.lt gb rfl).2; have gc := fun j u h => gG.cells (g := gb) rfl j u h; have b5' := gc 3 _ rfl; simp only [Addr.add_lit, Nat.zero_add, grd] at b5'; clear gG gc; have z3 := R3.out.b.size; have R5 := Lib.hid (R3.out.below (al_below w3 (.cells #[.int .i64 (XN + d)] 2))); clear ow gr hat))
            clear b0 b1' b2' b3' b4' gl R2 RD
            refine (mod_walk X n (by omega) (by omega) _).mono ?_
            rintro e wz ⟨rfl, rfl⟩
            rw [← HXN.out]
            clear gl3 b5'
            go_wp2_with (first
              | ((with_reducible refine wpList_append_own_at _ ?g2 (.tmp 91) (.tmp 98) 39 ?g3 w.heap.size 2 I1 Z1 1 8 Try.undIn hi1 hz1 hs1 hy1 hk1 ?g4 (.slice a16 q c16) q (rints D) ?g5 ?g6 ⟨w3.heap.size, 0, none⟩ 1 1 [.int .i64 (XN + d)] ?g7 ?g8 ?g9 ?g10 ?g11 ?g12 ?g13 ?_); (case g2 => rfl); (case g3 => rfl); (case g4 => decide); (case g5 => rfl); (case g6 => exact (by have := R5.out.own (rT ⟨.slice a16 q c16, D⟩) (by simp); simpa [rT, DQ.out] using this)); (case g7 => rfl); (case g8 => rfl); (case g9 => exact (i_cells (Deep.blk_alloc_new w3 _))); (case g10 => exact (i_one _)); (case g11 => (simp only [maxLen]; omega)); (case g12 => omega); (case g13 => (simp; omega)); intro v5 w5 ow gr _ hat; have R6 : Hid (Rowss w w5 (rT ⟨v5, D ++ [XN + d]⟩ :: ([rG gb n] ++ rB v3 (L ++ [⟨n, D ++ [XN + d]⟩]) :: ([rC u12 T] ++ T.map rT)))) := Lib.hid (by rw [rT_snoc]; exact Rowss.grow (A := []) (r := rT ⟨.slice a16 q c16, D⟩) R5.out gr (by simpa [rT, DQ.out] using ow) hat); have z5 := R6.out.b.size; obtain ⟨a5, c5, rfl, _, _⟩ := own_form' ow; have R7 := Lib.hid (R6.out.below (al_below w5 (.cells #[.slice a5 (q + 1) c5] 39))); clear ow gr hat)
              | ((with_reducible refine wpList_append_own_at _ ?g2 (.tmp 90) (.tmp 100) 36 ?g3 w.heap.size 39 I3 Z3 1 24 Try.undCC hi3 hz3 hs3 hy3 hk3 ?g4 u12 T.length (T.map (·.v)) ?g5 ?g6 ⟨w5.heap.size, 0, none⟩ 1 1 [.slice a5 (q + 1) c5] ?g7 ?g8 ?g9 ?g10 ?g11 ?g12 ?g13 ?_); (case g2 => rfl); (case g3 => rfl); (case g4 => decide); (case g5 => rfl); (case g6 => exact (R7.out.own (rC u12 T) (by simp))); (case g7 => rfl); (case g8 => rfl); (case g9 => exact (v_cells (Deep.blk_alloc_new w5 _))); (case g10 => exact v_one); (case g11 => (simp only [maxLen]; omega)); (case g12 => omega); (case g13 => (simp; omega)); intro v6 w6 ow gr _ hat; have R8 : Hid (Rowss w w6 ([rT ⟨.slice a5 (q + 1) c5, D ++ [XN + d]⟩, rG gb n, rB v3 (L ++ [⟨n, D ++ [XN + d]⟩])] ++ rC v6 (T ++ [⟨.slice a5 (q + 1) c5, D ++ [XN + d]⟩]) :: T.map rT)) := Lib.hid (by rw [rC_snoc]; exact Rowss.grow (A := [rT ⟨.slice a5 (q + 1) c5, D ++ [XN + d]⟩, rG gb n, rB v3 (L ++ [⟨n, D ++ [XN + d]⟩])]) (r := rC u12 T) R7.out gr ow hat); clear ow gr hat))
            have NX : Hid (U2 w w6 X o v3 v6 (L ++ [⟨n, D ++ [XN + d]⟩]) (T ++ [⟨.slice a5 (q + 1) c5, D ++ [XN + d]⟩]) (k + 1)) := Lib.hid ⟨by
                rw [List.map_append]
                exact (R8.out.perm (perm2 _ _ _ _ _)).drop1, by rw [List.map_append, List.map_append, HR.out.tl]; rfl, by rw [List.length_append, HR.out.len]; rfl, fun a ha => by
              rcases List.mem_append.1 ha with h | h
              · exact HR.out.ok a h
              · rw [List.mem_singleton] at h
                subst h
                exact ⟨nn.1, by have := nn.2; simp only; omega, by simp only [List.length_append, List.length_cons, List.length_nil, DQ.out]; omega, d, d1, d2, by rw [← HXN.out]; simp⟩⟩
            clear R8 R7 R6 R5
            go_roundw
            case rel => exact ⟨_, _, k + 1, by go_num, by omega, by omega, NX.out⟩
            case measure => simp only [intOf]; omega
      · have hz : (¬ (k : Int) < (nA : Int)) ∨ ((k : Int) < (nA : Int) ∧ ¬ (k : Int) < 5) := by omega
        clear hall
        rcases hz with z | ⟨z1, z⟩
        all_goals
          go_wp2_with fail
          go_meet
          exact fin.out
  case rest =>
    obtain ⟨L, T, k, k5, R⟩ := hcut
    have l8 : L.length ≤ 8 := by rw [R.len]; exact (by omega : k ≤ 8)
    have oB : wc.ownsRow w.heap.size 24 5 u11 L.length (flatB L) := R.r.own (rB u11 L) (by simp)
    have oC : wc.ownsRow w.heap.size 39 1 u12 T.length (T.map (·.v)) := R.r.own (rC u12 T) (by simp)
    obtain ⟨aR, cR, rfl, sb⟩ := bt_own oB (fun a ha => ⟨(R.ok a ha).1, (R.ok a ha).2.1⟩)
    obtain ⟨aQ, cQ, rfl, sc⟩ := sc_own oC (fun t ht => R.r.own (rT t) (by simp only [List.mem_append, List.mem_map]; exact .inr ⟨t, ht, rfl⟩))
    have tl := congrArg List.length R.tl
    rw [List.length_map, List.length_map] at tl
    rw [R.tl] at sc
    have SB := Lib.hid sb
    have SCC := Lib.hid sc
    have B1 := Lib.hid R.r.b
    have ASK0 : Hid (resW (L.map fun a => grd a.n) (L.map (·.C)) o 4096 = (resL (hitR (L.map fun a => grd a.n) (L.map (·.C)) o) 4096, 0)) := Lib.hid (asked0 (M := 4096) l8 (by omega) (by omega) (fun a ha => ⟨(R.ok a ha).1, (R.ok a ha).2.1, (R.ok a ha).2.2.1⟩))
    have ASK1 := Lib.hid (asked (M := 4096) ex1 (by omega) eo1 R.ok)
    rw [tl] at SCC ⊢
    obtain ⟨n8, hn8⟩ : ∃ n8, n8 = L.length := ⟨_, rfl⟩
    rw [← hn8] at SB SCC l8 ⊢
    clear R sb sc oB oC HA HB HC tl hn8 hi1 hz1 hs1 hy1 hk1 hi2 hz2 hs2 hy2 hk2 hi3 hz3 hs3 hy3 hk3
    go_wp2_with fail
    refine (resolve_walk aR n8 cR (L.map fun a => grd a.n) aQ n8 cQ (L.map (·.C)) o 4096 _ SB.out SCC.out).mono ?_
    rintro e w2 ⟨v, rfl, ow, b2⟩
    rw [ASK0.out] at ow ⊢
    simp only at ow ⊢
    obtain ⟨av, cv, rfl, sv⟩ := sn_own ow
    have MX := Lib.hid ASK1.out
    have SRT := Lib.hid (resL_sorted (hitR (L.map fun a => grd a.n) (L.map (·.C)) o) 4096)
    have RB := Lib.hid (fun x => resL_bd (h := hitR (L.map fun a => grd a.n) (L.map (·.C)) o) (k := 4096) (x := x))
    generalize resL (hitR (L.map fun a => grd a.n) (L.map (·.C)) o) 4096 = l at sv MX SRT RB ⊢
    have SV := Lib.hid sv
    have s1 := sv.le
    have s2 := sv.small
    have LV := Lib.hid sv.len
    obtain ⟨M, hM⟩ : ∃ M, l.length = M := ⟨_, rfl⟩
    rw [hM] at SV s1 LV ⊢
    have LM := Lib.hid hM
    clear hM LV
    have B2 := Lib.hid (B1.out.trans (b2.mono B1.out.size))
    clear ow b2 sv SB SCC B1 ASK0 ASK1
    go_wp2_with fail
    go_loopw [20, 21] (fun tv i wr => ∃ q : Nat, i = .int .i64 q ∧ q ≤ M ∧ tv = .bool (decide (X ∈ l.take q)) ∧ Below w2.heap.size w2 wr) (fun _ i _ => M - (intOf i).toNat)
    case atStart => exact ⟨0, rfl, by omega, by simp, Below.refl _ _⟩
    case round =>
      obtain ⟨q, rfl, hq, rfl, b9⟩ := hrel
      have B9 := Lib.hid b9
      clear b9
      by_cases hqM : q < M
      · obtain ⟨b, of, y, rfl, hb, hx, c0⟩ := SV.out.at hqM
        have c0 := (B9.out.cell (p := ⟨b, of + q, none⟩) hb).trans c0
        have hb := Nat.lt_of_lt_of_le hb B9.out.size
        have NX : Hid (decide (X ∈ l.take (q + 1)) = (decide (X ∈ l.take q) || decide (y = X))) := Lib.hid (by
          rw [List.take_add_one, hx]
          simp [Bool.decide_or, eq_comm])
        have PRE : Hid (∀ (p : Nat), q = p + 1 → ∃ z, wr.cell? ⟨b, of + p, none⟩ = some (.int .i64 z) ∧ z < y) := Lib.hid (fun p hp => by
          obtain ⟨b', of', z, e1, hb', hz, c1⟩ := SV.out.at (show p < M by omega)
          cases e1
          exact ⟨z, (B9.out.cell (p := ⟨b, of + p, none⟩) hb').trans c1, SRT.out p z y hz (by rw [← hp]; exact hx)⟩)
        have qM : (q : Int) < (M : Int) := by omega
        have yb := RB.out y (List.mem_of_getElem? hx)
        have yb1 := yb.1
        have yb2 : y < 4096 := by have := yb.2; omega
        have yb3 : ¬ y < 0 := by omega
        have yb4 : ¬ (4096 : Int) ≤ y := by omega
        clear yb
        generalize decide (X ∈ l.take q) = tv at NX ⊢
        clear hx
        obtain ⟨w8, e8⟩ : ∃ y, y = wr := ⟨_, rfl⟩
        rw [← e8] at B9 c0 hb PRE ⊢
        clear e8
        go_upto_region 26 with fail
        go_cut [144] (fun s wx => s = .bool false ∧ Below w8.heap.size w8 wx)
        case first =>
          refine wp_region_J 28 (fun x => Below w8.heap.size w8 x) (by kernel_rfl) rfl (by kernel_rfl) ((Below.refl _ w8).drew) (fun wj hJ hs => ?_)
          have HJ := Lib.hid hJ
          clear hJ
          (refine j_take 0 _ ?_ hs rfl rfl (by kernel_rfl) (by kernel_rfl) HJ.out (fun w' hw' => ?_) ?_; rotate_left; (· skip; go_simp; rfl); (go_simp))
          (refine j_take 1 _ ?_ hs rfl rfl (by kernel_rfl) (by kernel_rfl) HJ.out (fun w' hw' => ?_) ?_; rotate_left; (· skip; go_simp; rfl); (go_simp))
          (refine j_take 2 _ ?_ hs rfl rfl (by kernel_rfl) (by kernel_rfl) HJ.out (fun w' hw' => ?_) ?_; rotate_left; (· skip; go_simp; rfl); (go_simp))
          (refine j_take 3 _ ?_ hs rfl rfl (by kernel_rfl) (by kernel_rfl) HJ.out (fun w' hw' => ?_) ?_; rotate_left; (· have d := (hw'.cell (p := ⟨b, of + q, none⟩) hb).trans c0; go_simp; rfl); (go_simp))
          (refine j_take 4 _ ?_ hs rfl rfl (by kernel_rfl) (by kernel_rfl) HJ.out (fun w' hw' => ?_) ?_; rotate_left; (· skip; go_simp; rfl); (go_simp))
          (refine j_take 5 _ ?_ hs rfl rfl (by kernel_rfl) (by kernel_rfl) HJ.out (fun w' hw' => ?_) ?_; rotate_left; (· skip; go_simp; rfl); (go_simp))
          (refine j_take2 6 _ ?_ hs rfl (by kernel_rfl) (by kernel_rfl) HJ.out ?_ (fun w' hw' => ?_) ?_; rotate_left; (· go_simp); (· skip; go_simp; rfl); (go_simp))
          (refine j_take2 7 _ ?_ hs rfl (by kernel_rfl) (by kernel_rfl) HJ.out ?_ (fun w' hw' => ?_) ?_; rotate_left; (· go_simp); (· skip; go_simp; rfl); (go_simp))
          (refine j_take2 8 _ ?_ hs rfl (by kernel_rfl) (by kernel_rfl) HJ.out ?_ (fun w' hw' => ?_) ?_; rotate_left; (· go_simp); (· skip; go_simp; rfl); (go_simp))
          (refine j_take2 9 _ ?_ hs rfl (by kernel_rfl) (by kernel_rfl) HJ.out ?_ (fun w' hw' => ?_) ?_; rotate_left; (· go_simp); (· have d := (hw'.cell (p := ⟨b, of + q, none⟩) hb).trans c0; go_simp; rfl); (go_simp))
          (refine j_take2 10 _ ?_ hs rfl (by kernel_rfl) (by kernel_rfl) HJ.out ?_ (fun w' hw' => ?_) ?_; rotate_left; (· go_simp); (· skip; go_simp; rfl); (go_simp))
          (refine j_take 11 _ ?_ hs rfl rfl (by kernel_rfl) (by kernel_rfl) HJ.out (fun w' hw' => ?_) ?_; rotate_left; (· skip; go_simp; rfl); (go_simp))
          (refine j_take 12 _ ?_ hs rfl rfl (by kernel_rfl) (by kernel_rfl) HJ.out (fun w' hw' => ?_) ?_; rotate_left; (· skip; go_simp; rfl); (go_simp))
          (refine j_take2 13 _ ?_ hs rfl (by kernel_rfl) (by kernel_rfl) HJ.out ?_ (fun w' hw' => ?_) ?_; rotate_left; (· go_simp); (· skip; go_simp; rfl); (go_simp))
          by_cases q0 : q = 0
          · have q0i : ¬ (0 : Int) < (q : Int) := by omega
            have q0n : ¬ 0 < q := by omega
            have q0b : decide (0 < q) = false := decide_eq_false q0n
            have q0c : decide ((0 : Int) < (q : Int)) = false := decide_eq_false q0i
            clear q0
            (refine j_take2 14 _ ?_ hs rfl (by kernel_rfl) (by kernel_rfl) HJ.out ?_ (fun w' hw' => ?_) ?_; rotate_left; (· go_simp); (· skip; go_simp; rfl); (go_simp))
            (refine j_take2 15 _ ?_ hs rfl (by kernel_rfl) (by kernel_rfl) HJ.out ?_ (fun w' hw' => ?_) ?_; rotate_left; (· go_simp); (· skip; go_simp; rfl); (go_simp))
            (refine j_skip 16 _ hs rfl (by kernel_rfl) (by kernel_rfl) HJ.out ?_ ?_; (· go_simp); (go_simp))
            (refine j_skip 17 _ hs rfl (by kernel_rfl) (by kernel_rfl) HJ.out ?_ ?_; (· go_simp); (go_simp))
            (refine j_skip 18 _ hs rfl (by kernel_rfl) (by kernel_rfl) HJ.out ?_ ?_; (· go_simp); (go_simp))
            (refine j_skip 19 _ hs rfl (by kernel_rfl) (by kernel_rfl) HJ.out ?_ ?_; (· go_simp); (go_simp))
            (refine j_skip 20 _ hs rfl (by kernel_rfl) (by kernel_rfl) HJ.out ?_ ?_; (· go_simp); (go_simp))
            (refine j_skip 21 _ hs rfl (by kernel_rfl) (by kernel_rfl) HJ.out ?_ ?_; (· go_simp); (go_simp))
            (refine j_skip 22 _ hs rfl (by kernel_rfl) (by kernel_rfl) HJ.out ?_ ?_; (· go_simp); (go_simp))
            (refine j_skip 23 _ hs rfl (by kernel_rfl) (by kernel_rfl) HJ.out ?_ ?_; (· go_simp); (go_simp))
            (refine j_skip 24 _ hs rfl (by kernel_rfl) (by kernel_rfl) HJ.out ?_ ?_; (· go_simp); (go_simp))
            (refine j_skip 25 _ hs rfl (by kernel_rfl) (by kernel_rfl) HJ.out ?_ ?_; (· go_simp); (go_simp))
            (refine j_take2 26 _ ?_ hs rfl (by kernel_rfl) (by kernel_rfl) HJ.out ?_ (fun w' hw' => ?_) ?_; rotate_left; (· go_simp); (· skip; go_simp; rfl); (go_simp))
            (refine j_take 27 _ ?_ hs rfl rfl (by kernel_rfl) (by kernel_rfl) HJ.out (fun w' hw' => ?_) ?_; rotate_left; (· skip; go_simp; rfl); (go_simp))
            refine j_done (by kernel_rfl) ?_
            go_wp2_with fail
            go_meet
            exact ⟨rfl, HJ.out⟩
          · obtain ⟨p, rfl⟩ : ∃ p, q = p + 1 := ⟨q - 1, by omega⟩
            obtain ⟨z, c1, zy⟩ := PRE.out p rfl
            have zi : ¬ y ≤ z := by omega
            have q0i : (0 : Int) < ((p + 1 : Nat) : Int) := by omega
            have pM : (p : Int) < (M : Int) := by omega
            have pM2 : p < M := by omega
            have q0n : 0 < p + 1 := by omega
            have qM1 : (p : Int) + 1 < (M : Int) := by omega
            have q00 : (0 : Int) ≤ (p : Int) + 1 := by omega
            have wz : IntKind.i64.wrap (p : Int) = (p : Int) := IntWalk.i64_in _ (by omega)
            have q0b : decide ((0 : Int) < ((p + 1 : Nat) : Int)) = true := decide_eq_true q0i
            (refine j_take2 14 _ ?_ hs rfl (by kernel_rfl) (by kernel_rfl) HJ.out ?_ (fun w' hw' => ?_) ?_; rotate_left; (· go_simp); (· skip; go_simp; rfl); (go_simp))
            (refine j_take2 15 _ ?_ hs rfl (by kernel_rfl) (by kernel_rfl) HJ.out ?_ (fun w' hw' => ?_) ?_; rotate_left; (· go_simp); (· skip; go_simp; rfl); (go_simp))
            (refine j_take2 16 _ ?_ hs rfl (by kernel_rfl) (by kernel_rfl) HJ.out ?_ (fun w' hw' => ?_) ?_; rotate_left; (· go_simp); (· skip; go_simp; rfl); (go_simp))
            (refine j_take2 17 _ ?_ hs rfl (by kernel_rfl) (by kernel_rfl) HJ.out ?_ (fun w' hw' => ?_) ?_; rotate_left; (· go_simp); (· skip; go_simp; rfl); (go_simp))
            (refine j_take2 18 _ ?_ hs rfl (by kernel_rfl) (by kernel_rfl) HJ.out ?_ (fun w' hw' => ?_) ?_; rotate_left; (· go_simp); (· skip; go_simp; rfl); (go_simp))
            (refine j_take2 19 _ ?_ hs rfl (by kernel_rfl) (by kernel_rfl) HJ.out ?_ (fun w' hw' => ?_) ?_; rotate_left; (· go_simp); (· skip; go_simp; rfl); (go_simp))
            (refine j_take2 20 _ ?_ hs rfl (by kernel_rfl) (by kernel_rfl) HJ.out ?_ (fun w' hw' => ?_) ?_; rotate_left; (· go_simp); (· have d := (hw'.cell (p := ⟨b, of + p, none⟩) hb).trans c1; go_simp; rfl); (go_simp))
            (refine j_take2 21 _ ?_ hs rfl (by kernel_rfl) (by kernel_rfl) HJ.out ?_ (fun w' hw' => ?_) ?_; rotate_left; (· go_simp); (· skip; go_simp; rfl); (go_simp))
            (refine j_take2 22 _ ?_ hs rfl (by kernel_rfl) (by kernel_rfl) HJ.out ?_ (fun w' hw' => ?_) ?_; rotate_left; (· go_simp); (· skip; go_simp; rfl); (go_simp))
            (refine j_take2 23 _ ?_ hs rfl (by kernel_rfl) (by kernel_rfl) HJ.out ?_ (fun w' hw' => ?_) ?_; rotate_left; (· go_simp); (· skip; go_simp; rfl); (go_simp))
            (refine j_take2 24 _ ?_ hs rfl (by kernel_rfl) (by kernel_rfl) HJ.out ?_ (fun w' hw' => ?_) ?_; rotate_left; (· go_simp); (· have d := (hw'.cell (p := ⟨b, of + (p + 1), none⟩) hb).trans c0; go_simp; rfl); (go_simp))
            (refine j_take2 25 _ ?_ hs rfl (by kernel_rfl) (by kernel_rfl) HJ.out ?_ (fun w' hw' => ?_) ?_; rotate_left; (· go_simp); (· skip; go_simp; rfl); (go_simp))
            (refine j_take2 26 _ ?_ hs rfl (by kernel_rfl) (by kernel_rfl) HJ.out ?_ (fun w' hw' => ?_) ?_; rotate_left; (· go_simp); (· skip; go_simp; rfl); (go_simp))
            (refine j_take 27 _ ?_ hs rfl rfl (by kernel_rfl) (by kernel_rfl) HJ.out (fun w' hw' => ?_) ?_; rotate_left; (· skip; go_simp; rfl); (go_simp))
            refine j_done (by kernel_rfl) ?_
            go_wp2_with fail
            go_meet
            exact ⟨rfl, HJ.out⟩
        case rest =>
          obtain ⟨rfl, bb⟩ := hcut
          have c0 := (bb.cell (p := ⟨b, of + q, none⟩) hb).trans c0
          have hb := Nat.lt_of_lt_of_le hb bb.size
          have BC := Lib.hid (B9.out.trans (bb.mono B9.out.size))
          clear bb PRE B9
          cases tv
          · by_cases yX : y = X
            · have NY : Hid (decide (X ∈ l.take (q + 1)) = true) := Lib.hid (by rw [NX.out, decide_eq_true yX]; rfl)
              have ye : (y == X) = true := by rw [yX]; simp
              clear yX NX
              go_wp2_with fail
              go_roundw
              case rel => exact ⟨q + 1, by go_num, by omega, by rw [NY.out], BC.out⟩
              case measure => simp only [intOf]; omega
            · have NY : Hid (decide (X ∈ l.take (q + 1)) = false) := Lib.hid (by rw [NX.out, decide_eq_false yX]; rfl)
              have ye : (y == X) = false := by rw [beq_eq_false_iff_ne]; exact yX
              clear NX
              go_wp2_with fail
              go_roundw
              case rel => exact ⟨q + 1, by go_num, by omega, by rw [NY.out], BC.out⟩
              case measure => simp only [intOf]; omega
          · have NY : Hid (decide (X ∈ l.take (q + 1)) = true) := Lib.hid (by rw [NX.out]; rfl)
            clear NX
            go_wp2_with fail
            go_roundw
            case rel => exact ⟨q + 1, by go_num, by omega, by rw [NY.out], BC.out⟩
            case measure => simp only [intOf]; omega
      · obtain rfl : q = M := by omega
        have tt : decide (X ∈ l.take q) = true := by rw [List.take_of_length_le (by rw [LM.out]; exact Nat.le_refl _)]; exact decide_eq_true MX.out
        rw [tt]
        clear tt MX SRT RB LM SV
        go_wp2_with fail
        refine (wakes_walk _).mono ?_
        rintro e' w4 ⟨rfl, b4⟩
        have B5 := Lib.hid ((B2.out.trans (B9.out.mono B2.out.size)).trans (b4.mono (Nat.le_trans B2.out.size B9.out.size)))
        clear b4
        go_wp2_with fail
        go_ret
        exact ⟨rfl, B5.out⟩
end Go.Proofs.Ytdngkeefbpffcaa
