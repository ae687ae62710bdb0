import Derived.Test.YtdngkeefbpffcaaPlE
set_option autoImplicit false
set_option linter.unusedVariables false
namespace Go.Proofs.Ytdngkeefbpffcaa
open Go.RowKit Lk Pl
theorem getD_some {D : List Nat} {k x : Nat} (h : D[k]? = some x) : D.getD k 0 = x := by rw [List.getD_eq_getElem?_getD, h]; rfl
/-- what stands in memory while a list of places is put in order -/
structure So (W : World) (kf kl g n cap N : Nat) (a : Option Addr) (l : List Pt) (E : List Nat) (w : World) : Prop where
  cl : Cl W kf kl a n cap l
  hg : W.heap.size ≤ g
  b : Below W.heap.size W w
  d : Di w g E
  len : E.length = N
  mem : ∀ x ∈ E, x < n
theorem So.keep {W : World} {kf kl g n cap N : Nat} {a : Option Addr} {l : List Pt} {E : List Nat} {w w' : World} (h : So W kf kl g n cap N a l E w) (b : Below w.heap.size w w') : So W kf kl g n cap N a l E w' :=
  ⟨h.cl, h.hg, h.b.trans (b.mono h.b.size), h.d.keep b, h.len, h.mem⟩
theorem So.clo {W : World} {kf kl g n cap N : Nat} {a : Option Addr} {l : List Pt} {E : List Nat} {w : World} (h : So W kf kl g n cap N a l E w) {i j : Nat} (hi : i ∈ E) (hj : j ∈ E) :
    Calls Try.prog 64 #[.int .i64 i, .int .i64 j, .pointer (some ⟨kf, 0, none⟩), .pointer (some ⟨kl, 0, none⟩)] w (fun e w' => e = .returned (.int .i64 (ordP (l.getD i ⟨0, 0, 0, 0, 0⟩) (l.getD j ⟨0, 0, 0, 0, 0⟩))) ∧ Below w.heap.size w w') := by
  have li : i < l.length := by rw [h.cl.sp.len]; exact h.mem i hi
  have lj : j < l.length := by rw [h.cl.sp.len]; exact h.mem j hj
  refine closure_walk kf kl a n cap l i j _ _ w (h.cl.keep h.b) ?_ ?_
  · rw [List.getD_eq_getElem?_getD, List.getElem?_eq_getElem li]; rfl
  · rw [List.getD_eq_getElem?_getD, List.getElem?_eq_getElem lj]; rfl
theorem So.two {W : World} {kf kl g n cap N : Nat} {a : Option Addr} {l : List Pt} {E : List Nat} {w : World} {m x y : Nat} (h : So W kf kl g n cap N a l E w) (hx : E[m + 1]? = some x) (hy : E[m]? = some y) :
    w.cell? ⟨g, m + 1, none⟩ = some (.int .i64 (x : Int)) ∧ w.cell? ⟨g, m, none⟩ = some (.int .i64 (y : Int)) ∧ g < w.heap.size := ⟨h.d.cell hx, h.d.cell hy, h.d.lt⟩
theorem So.swap {W : World} {kf kl g n cap N : Nat} {a : Option Addr} {l : List Pt} {E : List Nat} {w w' : World} {j x y : Nat} (h : So W kf kl g n cap N a l E w) (hx : E[j + 1]? = some x) (hy : E[j]? = some y)
    (hd : Di w' g ((E.set (j + 1) y).set j x)) (hb : Below g w w') : So W kf kl g n cap N a l (swp E (j + 1)) w' := by
  have e : swp E (j + 1) = (E.set (j + 1) y).set j x := by
    unfold swp; rw [Nat.add_sub_cancel, getD_some hx, getD_some hy]
  exact ⟨h.cl, h.hg, h.b.trans (hb.mono h.hg), by rw [e]; exact hd, by rw [swp_len]; exact h.len, swp_mem (List.getElem?_eq_some_iff.1 hx).1 h.mem⟩
set_option maxRecDepth 100000 in
set_option maxHeartbeats 4000000 in
theorem insert_walk (W : World) (kf kl g n cap N co : Nat) (a : Option Addr) (l : List Pt) (D : List Nat) (p q : Nat) (w : World) (h : So W kf kl g n cap N a l D w) (hN : N ≤ co) (hc : co ≤ 9223372036854775807) (hpq : q ≤ N) (hp : p < 9223372036854775807) :
    Calls Try.prog 78 #[.slice (some ⟨g, 0, none⟩) N co, .int .i64 p, .int .i64 q, .func (.func 64) #[] #[.pointer (some ⟨kf, 0, none⟩), .pointer (some ⟨kl, 0, none⟩)]] w
      (fun e w' => e = .returned (.tuple #[]) ∧ So W kf kl g n cap N a l (insF (ltI l) p q D) w') := by
  have hcf : ∀ (args : Array Value) (w : World), (callFunc 64 args).run Try.prog w = .ok (.enter 64 args) w := fun _ _ => by kernel_rfl
  have S0 := Lib.hid h
  clear h
  go_enter Try.func78, Try.ntmps78
  go_wp2_with fail
  go_loopw [8] (fun i wr => ∃ k : Nat, i = .int .i64 k ∧ p + 1 ≤ k ∧ (k ≤ q ∨ k = p + 1) ∧ So W kf kl g n cap N a l (insF (ltI l) p k D) wr) (fun i _ => q - (intOf i).toNat)
  case atStart => exact ⟨p + 1, by go_num, Nat.le_refl _, .inr rfl, by rw [insF_start]; exact S0.out⟩
  case round =>
    clear S0
    obtain ⟨k, rfl, hk1, hk2, hs⟩ := hrel
    have SK := Lib.hid hs
    clear hs
    by_cases hlt : k < q
    · have kq : (k : Int) < (q : Int) := by omega
      obtain ⟨T, hT⟩ : ∃ T, T = insF (ltI l) p (k + 1) D := ⟨_, rfl⟩
      have HT := Lib.hid (show bub (ltI l) p k (insF (ltI l) p k D) = T by rw [hT, insF_succ _ _ hk1])
      have HT2 := Lib.hid hT
      clear hT
      go_wp2_with fail
      go_loopw [9] (fun i wr => ∃ (j : Nat) (E : List Nat), i = .int .i64 j ∧ j ≤ k ∧ p ≤ j ∧ bub (ltI l) p j E = T ∧ So W kf kl g n cap N a l E wr) (fun i _ => (intOf i).toNat)
      case atStart => exact ⟨k, _, rfl, Nat.le_refl _, by omega, HT.out, SK.out⟩
      case round =>
        clear SK HT
        obtain ⟨j, E, rfl, hj1, hj2, hb, hs⟩ := hrel
        have HB := Lib.hid hb
        have SE := Lib.hid hs
        clear hb hs
        by_cases hpj : j ≤ p
        · have hpi : ¬ (p : Int) < (j : Int) := by omega
          have HE := Lib.hid (show E = T by rw [← HB.out, bub_stop _ _ hpj])
          clear HB
          go_wp2_with fail
          refine wp_region_J1 17 (fun x => So W kf kl g n cap N a l E x) (by kernel_rfl) rfl (by kernel_rfl) (SE.out.keep (Below.refl _ wr).drew) (fun wj hbj hJ hs => ?_)
          have HJ := Lib.hid hJ
          clear hbj hJ
          (refine j_take 0 _ ?_ hs rfl rfl (by kernel_rfl) (by kernel_rfl) HJ.out (fun w' hw' => ?_) ?_; rotate_left; (· skip; go_simp; rfl); (go_simp))
          (refine j_take 1 _ ?_ hs rfl rfl (by kernel_rfl) (by kernel_rfl) HJ.out (fun w' hw' => ?_) ?_; rotate_left; (· skip; go_simp; rfl); (go_simp))
          (refine j_take 2 _ ?_ hs rfl rfl (by kernel_rfl) (by kernel_rfl) HJ.out (fun w' hw' => ?_) ?_; rotate_left; (· skip; go_simp; rfl); (go_simp))
          (refine j_take 3 _ ?_ hs rfl rfl (by kernel_rfl) (by kernel_rfl) HJ.out (fun w' hw' => ?_) ?_; rotate_left; (· skip; go_simp; rfl); (go_simp))
          (refine j_skip 4 _ hs rfl (by kernel_rfl) (by kernel_rfl) HJ.out ?_ ?_; (· go_simp); (go_simp))
          (refine j_skip 5 _ hs rfl (by kernel_rfl) (by kernel_rfl) HJ.out ?_ ?_; (· go_simp); (go_simp))
          (refine j_skip 6 _ hs rfl (by kernel_rfl) (by kernel_rfl) HJ.out ?_ ?_; (· go_simp); (go_simp))
          (refine j_skip 7 _ hs rfl (by kernel_rfl) (by kernel_rfl) HJ.out ?_ ?_; (· go_simp); (go_simp))
          (refine j_skip 8 _ hs rfl (by kernel_rfl) (by kernel_rfl) HJ.out ?_ ?_; (· go_simp); (go_simp))
          (refine j_skip 9 _ hs rfl (by kernel_rfl) (by kernel_rfl) HJ.out ?_ ?_; (· go_simp); (go_simp))
          (refine j_skip 10 _ hs rfl (by kernel_rfl) (by kernel_rfl) HJ.out ?_ ?_; (· go_simp); (go_simp))
          (refine j_skip 11 _ hs rfl (by kernel_rfl) (by kernel_rfl) HJ.out ?_ ?_; (· go_simp); (go_simp))
          (refine j_skip 12 _ hs rfl (by kernel_rfl) (by kernel_rfl) HJ.out ?_ ?_; (· go_simp); (go_simp))
          (refine j_skip 13 _ hs rfl (by kernel_rfl) (by kernel_rfl) HJ.out ?_ ?_; (· go_simp); (go_simp))
          (refine j_skip 14 _ hs rfl (by kernel_rfl) (by kernel_rfl) HJ.out ?_ ?_; (· go_simp); (go_simp))
          (refine j_skip 15 _ hs rfl (by kernel_rfl) (by kernel_rfl) HJ.out ?_ ?_; (· go_simp); (go_simp))
          (refine j_take 16 _ ?_ hs rfl rfl (by kernel_rfl) (by kernel_rfl) HJ.out (fun w' hw' => ?_) ?_; rotate_left; (· skip; go_simp; rfl); (go_simp))
          refine j_done (by kernel_rfl) ?_
          go_wp2_with fail
          go_roundw
          case rel => exact ⟨k + 1, by go_num, by omega, .inl (by omega), by rw [← HT2.out, ← HE.out]; exact HJ.out⟩
          case measure => simp only [intOf]; omega
        · obtain ⟨m, rfl⟩ : ∃ m, j = m + 1 := ⟨j - 1, by omega⟩
          have lE := SE.out.len
          obtain ⟨x, hx⟩ : ∃ x, E[m + 1]? = some x := ⟨_, List.getElem?_eq_getElem (by omega)⟩
          obtain ⟨y, hy⟩ : ∃ y, E[m]? = some y := ⟨_, List.getElem?_eq_getElem (by omega)⟩
          have HX := Lib.hid hx
          have HY := Lib.hid hy
          have pj : (p : Int) < (m : Int) + 1 := by omega
          have mN : (m : Int) + 1 < (N : Int) := by omega
          have mN' : (m : Int) < (N : Int) := by omega
          have s1 : IntKind.i64.wrap (m : Int) = (m : Int) := IntWalk.i64_in _ (by omega)
          have s2 : 0 ≤ (m : Int) + 1 := by omega
          have s3 : ((m : Int) + 1).toNat = m + 1 := by omega
          have CL := Lib.hid (fun w (h : So W kf kl g n cap N a l E w) => h.clo (List.mem_of_getElem? hx) (List.mem_of_getElem? hy))
          obtain ⟨C, hC⟩ : ∃ C, C = ordP (l.getD x ⟨0, 0, 0, 0, 0⟩) (l.getD y ⟨0, 0, 0, 0, 0⟩) := ⟨_, rfl⟩
          rw [← hC] at CL
          have HC := Lib.hid (show ltI l (E.getD (m + 1) 0) (E.getD m 0) = decide (C < 0) by rw [getD_some hx, getD_some hy, hC]; rfl)
          have P1 := Lib.hid (show p < m + 1 by omega)
          have pm : p < m + 1 := P1.out
          have pm2 : p ≤ m := by omega
          have mm : m + 1 < N := by omega
          have mm2 : m < N := by omega
          clear hx hy hC hpj lE
          go_upto_region 4 with fail
          go_cut [34] (fun s34 wx => s34 = .bool (decide (C < 0)) ∧ So W kf kl g n cap N a l E wx)
          case first =>
            refine wp_region_J1 17 (fun x => So W kf kl g n cap N a l E x) (by kernel_rfl) rfl (by kernel_rfl) (SE.out.keep (Below.refl _ wr).drew) (fun wj hbj hJ hs => ?_)
            have HJ := Lib.hid hJ
            clear hbj hJ
            (refine j_take 0 _ ?_ hs rfl rfl (by kernel_rfl) (by kernel_rfl) HJ.out (fun w' hw' => ?_) ?_; rotate_left; (· skip; go_simp; rfl); (go_simp))
            (refine j_take 1 _ ?_ hs rfl rfl (by kernel_rfl) (by kernel_rfl) HJ.out (fun w' hw' => ?_) ?_; rotate_left; (· skip; go_simp; rfl); (go_simp))
            (refine j_take 2 _ ?_ hs rfl rfl (by kernel_rfl) (by kernel_rfl) HJ.out (fun w' hw' => ?_) ?_; rotate_left; (· skip; go_simp; rfl); (go_simp))
            (refine j_take 3 _ ?_ hs rfl rfl (by kernel_rfl) (by kernel_rfl) HJ.out (fun w' hw' => ?_) ?_; rotate_left; (· skip; go_simp; rfl); (go_simp))
            (refine j_take2 4 _ ?_ hs rfl (by kernel_rfl) (by kernel_rfl) HJ.out ?_ (fun w' hw' => ?_) ?_; rotate_left; (· go_simp); (· skip; go_simp; rfl); (go_simp))
            (refine j_take2 5 _ ?_ hs rfl (by kernel_rfl) (by kernel_rfl) HJ.out ?_ (fun w' hw' => ?_) ?_; rotate_left; (· go_simp); (· skip; go_simp; rfl); (go_simp))
            (refine j_take2 6 _ ?_ hs rfl (by kernel_rfl) (by kernel_rfl) HJ.out ?_ (fun w' hw' => ?_) ?_; rotate_left; (· go_simp); (· skip; go_simp; rfl); (go_simp))
            (refine j_take2 7 _ ?_ hs rfl (by kernel_rfl) (by kernel_rfl) HJ.out ?_ (fun w' hw' => ?_) ?_; rotate_left; (· go_simp); (· (obtain ⟨hc0, hc1, hl⟩ := So.two hw' HX.out HY.out); go_simp; rfl); (go_simp))
            (refine j_take2 8 _ ?_ hs rfl (by kernel_rfl) (by kernel_rfl) HJ.out ?_ (fun w' hw' => ?_) ?_; rotate_left; (· go_simp); (· (obtain ⟨hc0, hc1, hl⟩ := So.two hw' HX.out HY.out); go_simp; rfl); (go_simp))
            (refine j_take2 9 _ ?_ hs rfl (by kernel_rfl) (by kernel_rfl) HJ.out ?_ (fun w' hw' => ?_) ?_; rotate_left; (· go_simp); (· skip; go_simp; rfl); (go_simp))
            (refine j_take2 10 _ ?_ hs rfl (by kernel_rfl) (by kernel_rfl) HJ.out ?_ (fun w' hw' => ?_) ?_; rotate_left; (· go_simp); (· skip; go_simp; rfl); (go_simp))
            (refine j_take2 11 _ ?_ hs rfl (by kernel_rfl) (by kernel_rfl) HJ.out ?_ (fun w' hw' => ?_) ?_; rotate_left; (· go_simp); (· skip; go_simp; rfl); (go_simp))
            (refine j_take2 12 _ ?_ hs rfl (by kernel_rfl) (by kernel_rfl) HJ.out ?_ (fun w' hw' => ?_) ?_; rotate_left; (· go_simp); (· (obtain ⟨hc0, hc1, hl⟩ := So.two hw' HX.out HY.out); go_simp; rfl); (go_simp))
            (refine j_take2 13 _ ?_ hs rfl (by kernel_rfl) (by kernel_rfl) HJ.out ?_ (fun w' hw' => ?_) ?_; rotate_left; (· go_simp); (· (obtain ⟨hc0, hc1, hl⟩ := So.two hw' HX.out HY.out); go_simp; rfl); (go_simp))
            refine j_one 14 _ rfl (by kernel_rfl) HJ.out ?_
            go_wp2_with fail
            refine (CL.out _ HJ.out).mono ?_
            rintro e w5 ⟨rfl, b5⟩
            have HJ := Lib.hid (HJ.out.keep b5)
            clear b5
            go_wp2_with fail
            refine ⟨HJ.out, ?_⟩
            (refine j_take2 15 _ ?_ hs rfl (by kernel_rfl) (by kernel_rfl) HJ.out ?_ (fun w' hw' => ?_) ?_; rotate_left; (· go_simp); (· skip; go_simp; rfl); (go_simp))
            (refine j_take 16 _ ?_ hs rfl rfl (by kernel_rfl) (by kernel_rfl) HJ.out (fun w' hw' => ?_) ?_; rotate_left; (· skip; go_simp; rfl); (go_simp))
            refine j_done (by kernel_rfl) ?_
            go_wp2_with fail
            go_meet
            exact ⟨rfl, HJ.out⟩
          case rest =>
            obtain ⟨w5, e5⟩ : ∃ x, x = wc := ⟨_, rfl⟩
            obtain ⟨rfl, h5⟩ := hcut
            rw [← e5] at h5 ⊢
            have S5 := Lib.hid h5
            obtain ⟨c0, c1, lg⟩ := h5.two HX.out HY.out
            have f0 := h5.d.frozen (m + 1)
            have f1 := h5.d.frozen m
            clear h5 SE CL e5
            by_cases hC0 : C < 0
            · have BY := Lib.hid (show bub (ltI l) p m (swp E (m + 1)) = T by rw [← HB.out, bub_yes _ _ P1.out (by rw [HC.out]; exact decide_eq_true hC0)])
              have dC : decide (C < 0) = true := decide_eq_true hC0
              rw [dC]
              clear HB HC dC hC0
              go_wp2_with fail
              go_region
              all_goals
                go_wp2_with fail
                go_roundw
                case rel => exact ⟨m, swp E (m + 1), by go_num, by omega, pm2, BY.out, S5.out.swap HX.out HY.out ((S5.out.d.set (m + 1) y).set m x) (by (repeat' (first | assumption | exact Below.refl _ _ | refine below_drewN ?_ _ | refine Below.drew ?_ | refine Below.setCell ?_ (by first | exact Nat.le_refl _ | (simp; done) | (simp; omega)) _ | refine Below.alloc ?_ (by first | exact Nat.le_refl _ | (simp; done) | (simp; omega)) _)))⟩
                case measure => simp only [intOf]; omega
            · have BN := Lib.hid (show E = T by rw [← HB.out, bub_no _ _ (by rw [HC.out]; exact decide_eq_false hC0)])
              have dC : decide (C < 0) = false := decide_eq_false hC0
              rw [dC]
              clear HB HC dC hC0 c0 c1 f0 f1
              go_wp2_with fail
              go_roundw
              case rel => exact ⟨k + 1, by go_num, by omega, .inl (by omega), by rw [← HT2.out, ← BN.out]; exact S5.out⟩
              case measure => simp only [intOf]; omega
    · have e : insF (ltI l) p k D = insF (ltI l) p q D := by
        rcases hk2 with h | h
        · rw [show k = q by omega]
        · rw [h, insF_start, insF_small _ _ (by omega)]
      have HE := Lib.hid e
      clear e
      go_wp2_with fail
      go_end0
      exact ⟨rfl, by rw [← HE.out]; exact SK.out⟩
end Go.Proofs.Ytdngkeefbpffcaa
