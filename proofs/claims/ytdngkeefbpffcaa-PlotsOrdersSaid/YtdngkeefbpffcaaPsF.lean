import Derived.Test.YtdngkeefbpffcaaPsD
set_option autoImplicit false
set_option linter.unusedVariables false
namespace Go.Proofs.Ytdngkeefbpffcaa
open Go.RowKit Lk Pl
set_option maxRecDepth 100000 in
set_option maxHeartbeats 4000000 in
theorem sym_last (W : World) (kf kl g n cap N co : Nat) (a : Option Addr) (l : List Pt) (hN : N ≤ co) (hc : co ≤ 4611686018427387904) (D : List Nat) (p m q : Nat) (hm : q = m + 1) (w : World) (hs : So W kf kl g n cap N a l D w) (hpm : p + 1 < m) (hq : q ≤ N) (hp : Pre (ltI l) D p m q) :
    Calls Try.prog 79 #[.slice (some ⟨g, 0, none⟩) N co, .int .i64 p, .int .i64 m, .int .i64 q, .func (.func 64) #[] #[.pointer (some ⟨kf, 0, none⟩), .pointer (some ⟨kl, 0, none⟩)]] w (SymP W kf kl g n cap N a l D p q) := by
  have hcf : ∀ (args : Array Value) (w : World), (callFunc 64 args).run Try.prog w = .ok (.enter 64 args) w := fun _ _ => by kernel_rfl
  have S0 := Lib.hid hs
  have PR := Lib.hid hp
  clear hs hp
  have e0 : (((m : Int) - (p : Int)) == 1) = false := by rw [beq_eq_false_iff_ne]; omega
  have e00 : ¬ (m : Int) - (p : Int) = 1 := by omega
  have e1 : (q : Int) - (m : Int) = 1 := by omega
  have HM := Lib.hid hm
  have mN : m < N := by omega
  have mN2 : (m : Int) < (N : Int) := by omega
  have LD := Lib.hid S0.out.len
  clear hm
  go_enter Try.func79, Try.ntmps79
  go_wp2_with fail
  go_loopw [14, 15] (fun vi vj wr => ∃ i j : Nat, vi = .int .i64 i ∧ vj = .int .i64 j ∧ p ≤ i ∧ i ≤ j ∧ j ≤ m ∧ So W kf kl g n cap N a l D wr ∧ (∀ t, p ≤ t → t < i → ltI l (gd D m) (gd D t) = false) ∧ (∀ t, j ≤ t → t < m → ltI l (gd D m) (gd D t) = true)) (fun vi vj _ => (intOf vj).toNat - (intOf vi).toNat)
  case atStart => exact ⟨p, m, rfl, rfl, by omega, by omega, by omega, S0.out, fun t h1 h2 => by omega, fun t h1 h2 => by omega⟩
  case round =>
    obtain ⟨i, j, rfl, rfl, hi, hij, hj, hs, ha, hb⟩ := hrel
    have SI := Lib.hid hs
    have HA := Lib.hid ha
    have HB := Lib.hid hb
    clear hs ha hb S0
    by_cases hlt : i < j
    · have lt2 : (i : Int) < (j : Int) := by omega
      go_upto_region 17 with fail
      obtain ⟨h, hh⟩ : ∃ h : Nat, h = (i + j) / 2 := ⟨_, rfl⟩
      rw [show ((i : Int) + (j : Int)) / 2 = (h : Int) by omega]
      have b1 : i ≤ h := by omega
      have b2 : h < j := by omega
      have b3 : (h : Int) < (N : Int) := by omega
      have CM := Lib.hid (fun (x : World) (k : So W kf kl g n cap N a l D x) => k.cmp (i := m) (j := h) (by omega) (by omega))
      clear hh
      obtain ⟨C, hC⟩ : ∃ C, C = ordP (l.getD (gd D m) ⟨0, 0, 0, 0, 0⟩) (l.getD (gd D h) ⟨0, 0, 0, 0, 0⟩) := ⟨_, rfl⟩
      rw [← hC] at CM
      have LT := Lib.hid (show ltI l (gd D m) (gd D h) = decide (C < 0) by rw [hC]; rfl)
      clear hC
      go_cut [103] (fun s wx => s = .bool (!decide (C < 0)) ∧ So W kf kl g n cap N a l D wx)
      case first =>
        refine wp_region_J 12 (fun x => So W kf kl g n cap N a l D x) (by kernel_rfl) rfl (by kernel_rfl) (SI.out.keep (Below.refl _ wr).drew) (fun wj hJ hs => ?_)
        have HJ := Lib.hid hJ
        clear hJ
        (refine j_take 0 _ ?_ hs rfl rfl (by kernel_rfl) (by kernel_rfl) HJ.out (fun w' hw' => ?_) ?_; rotate_left; (· skip; go_simp; rfl); (go_simp))
        (refine j_take 1 _ ?_ hs rfl rfl (by kernel_rfl) (by kernel_rfl) HJ.out (fun w' hw' => ?_) ?_; rotate_left; (· skip; go_simp; rfl); (go_simp))
        (refine j_take 2 _ ?_ hs rfl rfl (by kernel_rfl) (by kernel_rfl) HJ.out (fun w' hw' => ?_) ?_; rotate_left; (· skip; go_simp; rfl); (go_simp))
        (refine j_take 3 _ ?_ hs rfl rfl (by kernel_rfl) (by kernel_rfl) HJ.out (fun w' hw' => ?_) ?_; rotate_left; (· skip; go_simp; rfl); (go_simp))
        (refine j_take 4 _ ?_ hs rfl rfl (by kernel_rfl) (by kernel_rfl) HJ.out (fun w' hw' => ?_) ?_; rotate_left; (· obtain ⟨d1, d2, d3, _⟩ := CM.out _ hw'; go_simp; rfl); (go_simp))
        (refine j_take 5 _ ?_ hs rfl rfl (by kernel_rfl) (by kernel_rfl) HJ.out (fun w' hw' => ?_) ?_; rotate_left; (· skip; go_simp; rfl); (go_simp))
        (refine j_take 6 _ ?_ hs rfl rfl (by kernel_rfl) (by kernel_rfl) HJ.out (fun w' hw' => ?_) ?_; rotate_left; (· skip; go_simp; rfl); (go_simp))
        (refine j_take 7 _ ?_ hs rfl rfl (by kernel_rfl) (by kernel_rfl) HJ.out (fun w' hw' => ?_) ?_; rotate_left; (· skip; go_simp; rfl); (go_simp))
        (refine j_take 8 _ ?_ hs rfl rfl (by kernel_rfl) (by kernel_rfl) HJ.out (fun w' hw' => ?_) ?_; rotate_left; (· obtain ⟨d1, d2, d3, _⟩ := CM.out _ hw'; go_simp; rfl); (go_simp))
        refine j_one 9 _ rfl (by kernel_rfl) HJ.out ?_
        go_wp2_with fail
        refine (CM.out _ HJ.out).2.2.2.mono ?_
        rintro e w5 ⟨rfl, b5⟩
        have HJ := Lib.hid (HJ.out.keep b5)
        clear b5
        go_wp2_with fail
        refine ⟨HJ.out, ?_⟩
        (refine j_take 10 _ ?_ hs rfl rfl (by kernel_rfl) (by kernel_rfl) HJ.out (fun w' hw' => ?_) ?_; rotate_left; (· skip; go_simp; rfl); (go_simp))
        (refine j_take 11 _ ?_ hs rfl rfl (by kernel_rfl) (by kernel_rfl) HJ.out (fun w' hw' => ?_) ?_; rotate_left; (· skip; go_simp; rfl); (go_simp))
        refine j_done (by kernel_rfl) ?_
        go_wp2_with fail
        go_meet
        exact ⟨rfl, HJ.out⟩
      case rest =>
        obtain ⟨rfl, h5⟩ := hcut
        have S5 := Lib.hid h5
        clear h5 CM SI
        by_cases hC0 : C < 0
        · have lt3 : ltI l (gd D m) (gd D h) = true := by rw [LT.out]; exact decide_eq_true hC0
          have NB : Hid (∀ t, h ≤ t → t < m → ltI l (gd D m) (gd D t) = true) := Lib.hid fun t t1 t2 => by
            rcases (ltI_wo l).sp (gd D t) lt3 with k | k
            · exact k
            · rw [srt_le (ltI_wo l) PR.out.s1 (i := h) (j := t) (by omega) t1 t2] at k; cases k
          have dC : decide (C < 0) = true := decide_eq_true hC0
          rw [dC]
          clear dC hC0 LT lt3
          go_wp2_with fail
          go_roundw
          case rel => exact ⟨i, h, rfl, rfl, by omega, by omega, by omega, S5.out, HA.out, NB.out⟩
          case measure => simp only [intOf]; omega
        · have lt3 : ltI l (gd D m) (gd D h) = false := by rw [LT.out]; exact decide_eq_false hC0
          have NA : Hid (∀ t, p ≤ t → t < h + 1 → ltI l (gd D m) (gd D t) = false) := Lib.hid fun t t1 t2 => (ltI_wo l).nt _ _ _ lt3 (srt_le (ltI_wo l) PR.out.s1 (i := t) (j := h) t1 (by omega) (by omega))
          have dC : decide (C < 0) = false := decide_eq_false hC0
          rw [dC]
          clear dC hC0 LT lt3
          go_wp2_with fail
          go_roundw
          case rel => exact ⟨h + 1, j, by go_num, rfl, by omega, by omega, hj, S5.out, NA.out, HB.out⟩
          case measure => simp only [intOf]; omega
    · obtain rfl : i = j := by omega
      go_wp2_with fail
      go_loopw [17] (fun vk wr => ∃ (k : Nat) (E : List Nat), vk = .int .i64 k ∧ i ≤ k ∧ k ≤ m ∧ Rt W kf kl g n cap N a l D k m (m + 1) E wr) (fun vk _ => (intOf vk).toNat)
      case atStart => exact ⟨m, D, rfl, by omega, by omega, SI.out, fun x => by unfold rotF; split <;> (try split) <;> first | rfl | (congr 1; omega)⟩
      case round =>
        clear SI
        obtain ⟨k, E, rfl, k1, k2, hr⟩ := hrel
        have RT := Lib.hid hr
        clear hr
        by_cases hk : i < k
        · obtain ⟨d, rfl⟩ : ∃ d, k = d + 1 := ⟨k - 1, by omega⟩
          have lE := RT.out.s.len
          have NX0 := rot_down (D := D) (show 0 < d + 1 by omega) k2 (show m < E.length by omega) RT.out.e
          simp only [Nat.add_sub_cancel] at NX0
          have NX := Lib.hid NX0
          have c0 := RT.out.s.d.cell (getD_get (D := E) (k := d + 1) (by omega))
          have c1 := RT.out.s.d.cell (getD_get (D := E) (k := d) (by omega))
          generalize hx : E.getD (d + 1) 0 = x at c0 NX
          generalize hy : E.getD d 0 = y at c1 NX
          have HX := Lib.hid hx
          have HY := Lib.hid hy
          have f0 := RT.out.s.d.frozen (d + 1)
          have f1 := RT.out.s.d.frozen d
          have lg := RT.out.s.d.lt
          have kk : (i : Int) < (d : Int) + 1 := by omega
          have s1 : IntKind.i64.wrap (d : Int) = (d : Int) := IntWalk.i64_in _ (by omega)
          have s2 : 0 ≤ (d : Int) + 1 := by omega
          have s3 : ((d : Int) + 1).toNat = d + 1 := by omega
          have q1 : (d : Int) + 1 < (N : Int) := by omega
          have q4 : (d : Int) < (N : Int) := by omega
          have kN : d + 1 < N := by omega
          have kN1 : d < N := by omega
          have di : i ≤ d := by omega
          clear hx hy lE NX0
          go_wp2_with fail
          go_region
          all_goals
            go_wp2_with fail
            go_roundw
            case rel => exact ⟨d, _, by go_num, di, by omega, by
              have := RT.out.s.sw (p := d + 1) (q := d) (w' := ((wr.drewN 1).setCell ⟨g, d + 1, none⟩ (.int .i64 (y : Int))).setCell ⟨g, d, none⟩ (.int .i64 (x : Int))) kN kN1 (by rw [HX.out, HY.out]; exact (RT.out.s.d.set (d + 1) y).set d x) (by (repeat' (first | assumption | exact Below.refl _ _ | refine below_drewN ?_ _ | refine Below.drew ?_ | refine Below.setCell ?_ (by first | exact Nat.le_refl _ | (simp; done) | (simp; omega)) _ | refine Below.alloc ?_ (by first | exact Nat.le_refl _ | (simp; done) | (simp; omega)) _)))
              rw [HX.out, HY.out] at this
              exact ⟨this, NX.out⟩⟩
            case measure => simp only [intOf]; omega
        · obtain rfl : k = i := by omega
          go_wp2_with fail
          go_end0
          refine ⟨rfl, E, RT.out.s, ?_⟩
          have P2 : Pre (ltI l) D p m (m + 1) := by have := PR.out; rw [HM.out] at this; exact this
          have e : E.length = D.length := by rw [RT.out.s.len, LD.out]
          rw [HM.out]
          exact case_last (ltI_wo l) P2 e hi hj RT.out.e HA.out HB.out
end Go.Proofs.Ytdngkeefbpffcaa
