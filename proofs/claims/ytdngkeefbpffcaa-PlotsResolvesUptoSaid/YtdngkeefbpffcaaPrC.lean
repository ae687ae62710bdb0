import Derived.Test.YtdngkeefbpffcaaPrB
set_option autoImplicit false
set_option linter.unusedVariables false
namespace Go.Proofs.Ytdngkeefbpffcaa
open Go.RowKit Lk Rs Pl Fo
def sumC (LL : List (List Int)) (k : Nat) : Nat := ((LL.take k).map List.length).sum
theorem sumC_zero (LL : List (List Int)) : sumC LL 0 = 0 := rfl
theorem sumC_succ {LL : List (List Int)} {k : Nat} {C : List Int} (h : LL[k]? = some C) : sumC LL (k + 1) = sumC LL k + C.length := by
  unfold sumC; rw [List.take_add_one, h, List.map_append, List.sum_append]; simp
theorem sumC_mem {LL : List (List Int)} {j k : Nat} {C : List Int} (h : LL[j]? = some C) (hj : j < k) : C.length ≤ sumC LL k := by
  induction k with
  | zero => omega
  | succ k ih =>
    by_cases e : j = k
    · subst e; rw [sumC_succ h]; omega
    · have := ih (by omega)
      unfold sumC at this ⊢
      rw [List.take_add_one, List.map_append, List.sum_append]; omega
/-- what great answers -/
def GrP (nB nC : Nat) (LL : List (List Int)) (w : World) (e : Ending) (w' : World) : Prop := ∃ G, e = .returned (.bool G) ∧ (G = false → nB ≤ 4096 ∧ nC ≤ 4096 ∧ ∀ C ∈ LL, C.length ≤ 4096) ∧ Below w.heap.size w w'
set_option maxRecDepth 100000 in
set_option maxHeartbeats 8000000 in
theorem great_walk (aB : Option Addr) (nB cB : Nat) (B : List Bt) (aC : Option Addr) (nC cC : Nat) (LL : List (List Int)) (off most : Int) (w : World) (hB : SBt w aB nB cB B) (hC : SC w aC nC cC LL) (hl : ∀ C ∈ LL, C.length ≤ 1048576) :
    Calls Try.prog 14 #[.agg #[.slice aB nB cB, .slice aC nC cC, .int .i64 off, .int .i64 most]] w (GrP nB nC LL w) := by
  have HC := Lib.hid hC
  have HL := Lib.hid hl
  have b1 := hB.le
  have b2 := hB.small
  have c1 := hC.le
  have c2 := hC.small
  have NL := Lib.hid hC.len
  clear hB hC hl
  go_enter Try.func14, Try.ntmps14
  go_upto_region 1 with fail
  refine wp_forget (fun wx => wx.heap[w.heap.size]? = some (.cells #[.slice aB nB cB, .slice aC nC cC, .int .i64 off, .int .i64 most] 38 (0, 0)) ∧ Below w.heap.size w wx) ⟨Deep.blk_alloc_new _ _, al_below _ _⟩ ?_
  rintro w1 ⟨k1, bb⟩
  have B1 := Lib.hid bb
  obtain ⟨g, hg⟩ : ∃ g, g = w.heap.size := ⟨_, rfl⟩
  rw [← hg] at k1 ⊢
  have a0 : w1.cell? ⟨g, 0, none⟩ = some (.slice aB nB cB) := by simp [World.cell?, k1]
  have a1 : w1.cell? ⟨g, 1, none⟩ = some (.slice aC nC cC) := by simp [World.cell?, k1]
  have a3 : w1.cell? ⟨g, 3, none⟩ = some (.int .i64 most) := by simp [World.cell?, k1]
  have gl := (Array.getElem?_eq_some_iff.1 k1).1
  have HC1 := Lib.hid (HC.out.keep B1.out)
  clear k1 bb hg
  go_upto_block 0 with fail
  go_cut [3] (fun v3 wx => ∃ (S : Nat), v3 = .int .i64 S ∧ S ≤ 1052672 ∧ (S ≤ 4096 → nC ≤ 4096 → ∀ C ∈ LL, C.length ≤ 4096) ∧ w1 = wx)
  case first =>
    go_wp2_with fail
    go_loopw [3, 4] (fun v3 v4 wr => ∃ i : Nat, v3 = .int .i64 (sumC LL i) ∧ v4 = .int .i64 i ∧ i ≤ nC ∧ sumC LL i ≤ 1052672 ∧ w1 = wr) (fun _ v4 _ => nC - (intOf v4).toNat)
    case atStart => exact ⟨0, rfl, rfl, by omega, by simp [sumC_zero], rfl⟩
    case round =>
      obtain ⟨i, rfl, rfl, hi, hs, e1⟩ := hrel
      subst e1
      have END : Hid (nC ≤ i → sumC LL i ≤ 4096 → ∀ C ∈ LL, C.length ≤ 4096) := Lib.hid (fun h1 h2 C hC => by
        obtain ⟨j, hj⟩ := List.mem_iff_getElem?.1 hC
        have := sumC_mem (k := i) hj (by have := (List.getElem?_eq_some_iff.1 hj).1; rw [NL.out] at this; omega)
        omega)
      have NXT : Hid (∀ C, LL[i]? = some C → sumC LL (i + 1) = sumC LL i + C.length) := Lib.hid (fun C h => sumC_succ h)
      obtain ⟨S, hS⟩ : ∃ S, S = sumC LL i := ⟨_, rfl⟩
      rw [← hS] at hs END NXT ⊢
      clear hS
      by_cases h1 : i < nC
      · have i1 : (i : Int) < (nC : Int) := by omega
        by_cases h2 : i ≤ 4096
        · have i2 : (i : Int) ≤ 4096 := by omega
          by_cases h3 : S ≤ 4096
          · have i3 : (S : Int) ≤ 4096 := by omega
            obtain ⟨b, of, C, a', c', rfl, hb, hx, cc0, sn⟩ := HC1.out.at h1
            have CL := HL.out C (List.mem_of_getElem? hx)
            have NX := Lib.hid (NXT.out C hx)
            obtain ⟨M, hM⟩ : ∃ M, M = C.length := ⟨_, rfl⟩
            rw [← hM] at CL NX cc0
            have wz : IntKind.i64.wrap ((S : Int) + (M : Int)) = (S : Int) + (M : Int) := IntWalk.i64_in _ (by omega)
            clear hx sn hM NXT END
            go_wp2_with fail
            go_roundw
            case rel => exact ⟨i + 1, by rw [NX.out]; rfl, by go_num, by omega, by rw [NX.out]; omega, trivial⟩
            case measure => simp only [intOf]; omega
          · have i3 : ¬ (S : Int) ≤ 4096 := by omega
            go_wp2_with fail
            go_meet
            exact ⟨S, rfl, hs, fun q => absurd q h3, rfl⟩
        · have i2 : ¬ (i : Int) ≤ 4096 := by omega
          go_wp2_with fail
          go_meet
          exact ⟨S, rfl, hs, fun _ q => by omega, rfl⟩
      · have i1 : ¬ (i : Int) < (nC : Int) := by omega
        go_wp2_with fail
        go_meet
        exact ⟨S, rfl, hs, fun q _ => END.out (by omega) q, rfl⟩
  case rest =>
    obtain ⟨S, rfl, hs, hF, e1⟩ := hcut
    subst e1
    have F := Lib.hid hF
    clear hF
    have fin : ∀ G : Bool, (G = false → S ≤ 4096 ∧ nC ≤ 4096 ∧ nB ≤ 4096) → GrP nB nC LL w (.returned (.bool G)) w1 := fun G h => ⟨G, rfl, fun e => by
      obtain ⟨x, y, z⟩ := h e
      exact ⟨z, y, F.out x y⟩, B1.out⟩
    have FIN := Lib.hid fin
    clear fin F HC1 HC HL
    by_cases m0 : 1048576 < most
    · by_cases s0 : S ≤ 4096
      · have s1 : ¬ (4096 : Int) < (S : Int) := by omega
        by_cases t0 : nC ≤ 4096
        · have t1 : ¬ (4096 : Int) < (nC : Int) := by omega
          by_cases r0 : nB ≤ 4096
          · have r1 : ¬ (4096 : Int) < (nB : Int) := by omega
            go_wp2_with fail
            go_ret
            exact FIN.out _ (fun _ => ⟨s0, t0, r0⟩)
          · have r1 : (4096 : Int) < (nB : Int) := by omega
            go_wp2_with fail
            go_ret
            exact FIN.out _ (fun e => by cases e)
        · have t1 : (4096 : Int) < (nC : Int) := by omega
          go_wp2_with fail
          go_ret
          exact FIN.out _ (fun e => by cases e)
      · have s1 : (4096 : Int) < (S : Int) := by omega
        go_wp2_with fail
        go_ret
        exact FIN.out _ (fun e => by cases e)
    · by_cases s0 : S ≤ 4096
      · have s1 : ¬ (4096 : Int) < (S : Int) := by omega
        by_cases t0 : nC ≤ 4096
        · have t1 : ¬ (4096 : Int) < (nC : Int) := by omega
          by_cases r0 : nB ≤ 4096
          · have r1 : ¬ (4096 : Int) < (nB : Int) := by omega
            by_cases q0 : 131072 < most
            · go_wp2_with fail
              go_ret
              exact FIN.out _ (fun e => by cases e)
            · by_cases p0 : 8192 < most
              · by_cases o0 : S ≤ 64
                · have o1 : ¬ (64 : Int) < (S : Int) := by omega
                  go_wp2_with fail
                  go_ret
                  exact FIN.out _ (fun _ => ⟨s0, t0, r0⟩)
                · have o1 : (64 : Int) < (S : Int) := by omega
                  go_wp2_with fail
                  go_ret
                  exact FIN.out _ (fun _ => ⟨s0, t0, r0⟩)
              · go_wp2_with fail
                go_ret
                exact FIN.out _ (fun _ => ⟨s0, t0, r0⟩)
          · have r1 : (4096 : Int) < (nB : Int) := by omega
            go_wp2_with fail
            go_ret
            exact FIN.out _ (fun e => by cases e)
        · have t1 : (4096 : Int) < (nC : Int) := by omega
          go_wp2_with fail
          go_ret
          exact FIN.out _ (fun e => by cases e)
      · have s1 : (4096 : Int) < (S : Int) := by omega
        go_wp2_with fail
        go_ret
        exact FIN.out _ (fun e => by cases e)
set_option maxRecDepth 100000 in
set_option maxHeartbeats 4000000 in
theorem sameints_walk (a b : Option Addr) (n c1 c2 : Nat) (M : List Int) (W : World) (h1 : SN W a n c1 M) (h2 : SN W b n c2 M) :
    Calls Try.prog 17 #[.slice a n c1, .slice b n c2] W (fun e w' => e = .returned (.bool true) ∧ Below W.heap.size W w') := by
  have S1 := Lib.hid h1
  have S2 := Lib.hid h2
  have n63 := Nat.le_trans h1.le h1.small
  clear h1 h2
  go_enter Try.func17, Try.ntmps17
  go_wp2_with fail
  go_loopw [5] (fun v5 wr => ∃ k : Nat, v5 = .int .i64 k ∧ k ≤ n ∧ Below W.heap.size W wr) (fun v5 _ => n - (intOf v5).toNat)
  case atStart => exact ⟨0, rfl, by omega, Below.refl _ _⟩
  case round =>
    obtain ⟨k, rfl, hk, hb⟩ := hrel
    have B := Lib.hid hb
    clear hb
    by_cases hlt : k < n
    · have kn : (k : Int) < (n : Int) := by omega
      obtain ⟨bp, op, p, rfl, hb, hp, c0⟩ := (S1.out.keep B.out).at hlt
      obtain ⟨bq, oq, q, rfl, hbq, hq, d0⟩ := (S2.out.keep B.out).at hlt
      obtain rfl : p = q := Option.some.inj (hp.symm.trans hq)
      clear hp hq S1 S2
      obtain ⟨w8, e8⟩ : ∃ y, y = wr := ⟨_, rfl⟩
      rw [← e8] at B hb hbq c0 d0 ⊢
      clear e8
      go_upto_region 6 with fail
      go_cut [25] from 17 to 25 (fun v wx => v = .bool false ∧ Below w8.heap.size w8 wx)
      case first =>
        refine wp_region_J 9 (fun x => Below w8.heap.size w8 x) (by kernel_rfl) rfl (by kernel_rfl) ((Below.refl _ w8).drew) (fun wj hJ hs => ?_)
        have HJ := Lib.hid hJ
        clear hJ
        (refine j_take 0 _ ?_ hs rfl rfl (by kernel_rfl) (by kernel_rfl) HJ.out (fun w' hw' => ?_) ?_; rotate_left; (· skip; go_simp; rfl); (go_simp))
        (refine j_take 1 _ ?_ hs rfl rfl (by kernel_rfl) (by kernel_rfl) HJ.out (fun w' hw' => ?_) ?_; rotate_left; (· skip; go_simp; rfl); (go_simp))
        (refine j_take 2 _ ?_ hs rfl rfl (by kernel_rfl) (by kernel_rfl) HJ.out (fun w' hw' => ?_) ?_; rotate_left; (· skip; go_simp; rfl); (go_simp))
        (refine j_take 3 _ ?_ hs rfl rfl (by kernel_rfl) (by kernel_rfl) HJ.out (fun w' hw' => ?_) ?_; rotate_left; (· have d := (hw'.cell (p := ⟨bp, op + k, none⟩) hb).trans c0; go_simp; rfl); (go_simp))
        (refine j_take 4 _ ?_ hs rfl rfl (by kernel_rfl) (by kernel_rfl) HJ.out (fun w' hw' => ?_) ?_; rotate_left; (· skip; go_simp; rfl); (go_simp))
        (refine j_take 5 _ ?_ hs rfl rfl (by kernel_rfl) (by kernel_rfl) HJ.out (fun w' hw' => ?_) ?_; rotate_left; (· skip; go_simp; rfl); (go_simp))
        (refine j_take 6 _ ?_ hs rfl rfl (by kernel_rfl) (by kernel_rfl) HJ.out (fun w' hw' => ?_) ?_; rotate_left; (· skip; go_simp; rfl); (go_simp))
        (refine j_take 7 _ ?_ hs rfl rfl (by kernel_rfl) (by kernel_rfl) HJ.out (fun w' hw' => ?_) ?_; rotate_left; (· have d := (hw'.cell (p := ⟨bq, oq + k, none⟩) hbq).trans d0; go_simp; rfl); (go_simp))
        (refine j_take 8 _ ?_ hs rfl rfl (by kernel_rfl) (by kernel_rfl) HJ.out (fun w' hw' => ?_) ?_; rotate_left; (· skip; go_simp; rfl); (go_simp))
        refine j_done (by kernel_rfl) ?_
        go_wp2_with fail
        go_meet
        exact ⟨rfl, HJ.out⟩
      case rest =>
        obtain ⟨rfl, bb⟩ := hcut
        have B5 := Lib.hid (B.out.trans (bb.mono B.out.size))
        clear bb c0 d0
        go_wp2_with fail
        go_roundw
        case rel => exact ⟨k + 1, by go_num, by omega, B5.out⟩
        case measure => simp only [intOf]; omega
    · obtain rfl : k = n := by omega
      go_wp2_with fail
      go_ret
      exact ⟨rfl, B.out⟩
end Go.Proofs.Ytdngkeefbpffcaa
