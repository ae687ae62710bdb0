import Derived.Test.YtdngkeefbpffcaaPsE
set_option autoImplicit false
set_option linter.unusedVariables false
namespace Pl
open Lk
theorem cmpN_val (a b : Nat) : (cmpN a b = -1 ∧ a < b) ∨ (cmpN a b = 0 ∧ a = b) ∨ (cmpN a b = 1 ∧ b < a) := by unfold cmpN; split <;> (try split) <;> omega
theorem cmpL_anti : ∀ (A B : List Nat), A.length = B.length → cmpL A B = - cmpL B A
  | [], [], _ => rfl
  | a :: A, b :: B, h => by
    have ih := cmpL_anti A B (by simpa using h)
    rw [cmpL, cmpL]
    rcases cmpN_val a b with ⟨h1, h2⟩ | ⟨h1, h2⟩ | ⟨h1, h2⟩ <;> rcases cmpN_val b a with ⟨k1, k2⟩ | ⟨k1, k2⟩ | ⟨k1, k2⟩ <;> rw [h1, k1] <;> first | omega | (simp; done) | simpa using ih
theorem cmpL_tr : ∀ (A B C : List Nat), A.length = B.length → B.length = C.length → cmpL A B ≤ 0 → cmpL B C ≤ 0 → cmpL A C ≤ 0
  | [], [], [], _, _, _, _ => by decide
  | a :: A, b :: B, c :: C, h, k, h1, h2 => by
    have ih := cmpL_tr A B C (by simpa using h) (by simpa using k)
    rw [cmpL] at h1 h2 ⊢
    rcases cmpN_val a b with ⟨p1, p2⟩ | ⟨p1, p2⟩ | ⟨p1, p2⟩ <;> rcases cmpN_val b c with ⟨q1, q2⟩ | ⟨q1, q2⟩ | ⟨q1, q2⟩ <;> rcases cmpN_val a c with ⟨r1, r2⟩ | ⟨r1, r2⟩ | ⟨r1, r2⟩ <;> rw [p1] at h1 <;> rw [q1] at h2 <;> rw [r1] <;> simp only [Int.reduceNeg, if_true, if_false, Int.neg_eq_zero, Int.one_ne_zero] at h1 h2 ⊢ <;> first | omega | exact ih h1 h2
end Pl
namespace Go.Proofs.Ytdngkeefbpffcaa
open Go.RowKit Lk Pl
theorem key_len (p : Pt) : (key p).length = 5 := rfl
theorem ltI_wo (l : List Pt) : WO (ltI l) := by
  have A : ∀ x y, ordP x y = - ordP y x := fun x y => cmpL_anti _ _ (by rw [key_len, key_len])
  have T : ∀ x y z, ordP x y ≤ 0 → ordP y z ≤ 0 → ordP x z ≤ 0 := fun x y z => cmpL_tr _ _ _ (by rw [key_len, key_len]) (by rw [key_len, key_len])
  refine ⟨fun x => ?_, fun x y z h1 h2 => ?_, fun x y z h1 h2 => ?_⟩
  · unfold ltI; rw [decide_eq_false_iff_not]
    have := A (l.getD x ⟨0, 0, 0, 0, 0⟩) (l.getD x ⟨0, 0, 0, 0, 0⟩); omega
  · unfold ltI at *; rw [decide_eq_true_eq] at *
    have a1 := A (l.getD x ⟨0, 0, 0, 0, 0⟩) (l.getD z ⟨0, 0, 0, 0, 0⟩)
    have a2 := A (l.getD x ⟨0, 0, 0, 0, 0⟩) (l.getD y ⟨0, 0, 0, 0, 0⟩)
    have := T (l.getD y ⟨0, 0, 0, 0, 0⟩) (l.getD z ⟨0, 0, 0, 0, 0⟩) (l.getD x ⟨0, 0, 0, 0, 0⟩)
    omega
  · unfold ltI at *; rw [decide_eq_false_iff_not] at *
    have a1 := A (l.getD x ⟨0, 0, 0, 0, 0⟩) (l.getD z ⟨0, 0, 0, 0, 0⟩)
    have a2 := A (l.getD x ⟨0, 0, 0, 0, 0⟩) (l.getD y ⟨0, 0, 0, 0, 0⟩)
    have a3 := A (l.getD y ⟨0, 0, 0, 0, 0⟩) (l.getD z ⟨0, 0, 0, 0, 0⟩)
    have := T (l.getD z ⟨0, 0, 0, 0, 0⟩) (l.getD y ⟨0, 0, 0, 0, 0⟩) (l.getD x ⟨0, 0, 0, 0, 0⟩)
    omega
/-- two places of the list, held against one another -/
theorem So.cmp {W : World} {kf kl g n cap N : Nat} {a : Option Addr} {l : List Pt} {E : List Nat} {w : World} (h : So W kf kl g n cap N a l E w) {i j : Nat} (hi : i < N) (hj : j < N) :
    w.cell? ⟨g, i, none⟩ = some (.int .i64 ((gd E i : Nat) : Int)) ∧ w.cell? ⟨g, j, none⟩ = some (.int .i64 ((gd E j : Nat) : Int)) ∧ g < w.heap.size ∧
    Calls Try.prog 64 #[.int .i64 ((gd E i : Nat) : Int), .int .i64 ((gd E j : Nat) : Int), .pointer (some ⟨kf, 0, none⟩), .pointer (some ⟨kl, 0, none⟩)] w (fun e w' => e = .returned (.int .i64 (ordP (l.getD (gd E i) ⟨0, 0, 0, 0, 0⟩) (l.getD (gd E j) ⟨0, 0, 0, 0, 0⟩))) ∧ Below w.heap.size w w') := by
  have e := h.len
  have gi := getD_get (D := E) (k := i) (by omega)
  have gj := getD_get (D := E) (k := j) (by omega)
  exact ⟨h.d.cell gi, h.d.cell gj, h.d.lt, h.clo (List.mem_of_getElem? gi) (List.mem_of_getElem? gj)⟩
def SymP (W : World) (kf kl g n cap N : Nat) (a : Option Addr) (l : List Pt) (D : List Nat) (p q : Nat) (e : Ending) (w' : World) : Prop := e = .returned (.tuple #[]) ∧ ∃ E, So W kf kl g n cap N a l E w' ∧ Post (ltI l) D E p q
/-- the list so far, rotated up to k -/
structure Rt (W : World) (kf kl g n cap N : Nat) (a : Option Addr) (l : List Pt) (D : List Nat) (p m k : Nat) (E : List Nat) (w : World) : Prop where
  s : So W kf kl g n cap N a l E w
  e : ∀ x, gd E x = rotF (gd D) p m k x
theorem gd_set2 {E : List Nat} {p q : Nat} (hp : p < E.length) (hq : q < E.length) (k : Nat) : gd ((E.set p (E.getD q 0)).set q (E.getD p 0)) k = if k = q then gd E p else if k = p then gd E q else gd E k := by
  unfold gd
  rw [getD_set _ _ _ _ (by rw [List.length_set]; exact hq), getD_set _ _ _ _ hp]
/-- one step on -/
theorem rot_up {D E : List Nat} {p k : Nat} (hk : p ≤ k) (hl : k + 1 < E.length) (h : ∀ x, gd E x = rotF (gd D) p (p + 1) (k + 1) x) (x : Nat) : gd ((E.set k (E.getD (k + 1) 0)).set (k + 1) (E.getD k 0)) x = rotF (gd D) p (p + 1) (k + 2) x := by
  rw [gd_set2 (by omega) hl, h, h, h]
  unfold rotF
  by_cases h1 : x = k + 1
  · subst h1
    rw [if_pos rfl, if_pos (by omega), if_neg (by omega), if_pos (by omega), if_neg (by omega)]
    congr 1; omega
  · rw [if_neg h1]
    by_cases h2 : x = k
    · subst h2
      rw [if_pos rfl, if_neg (by omega), if_pos (by omega), if_pos (by omega)]
      congr 1; omega
    · rw [if_neg h2]
      by_cases h3 : p ≤ x ∧ x < k + 1
      · rw [if_pos h3, if_pos (by omega), if_pos (by omega), if_pos (by omega)]
      · rw [if_neg h3, if_neg (by omega)]
theorem rot_down {D E : List Nat} {m k : Nat} (hk : 0 < k) (hkm : k ≤ m) (hl : m < E.length) (h : ∀ x, gd E x = rotF (gd D) k m (m + 1) x) (x : Nat) : gd ((E.set k (E.getD (k - 1) 0)).set (k - 1) (E.getD k 0)) x = rotF (gd D) (k - 1) m (m + 1) x := by
  rw [gd_set2 (by omega) (by omega), h, h, h]
  unfold rotF
  by_cases h1 : x = k - 1
  · subst h1
    rw [if_pos rfl, if_pos (by omega), if_pos (by omega), if_pos (by omega), if_pos (by omega)]
    congr 1; omega
  · rw [if_neg h1]
    by_cases h2 : x = k
    · subst h2
      rw [if_pos rfl, if_neg (by omega), if_pos (by omega), if_neg (by omega)]
      congr 1; omega
    · rw [if_neg h2]
      by_cases h3 : k ≤ x ∧ x < m + 1
      · rw [if_pos h3, if_neg (by omega), if_pos (by omega), if_neg (by omega)]
      · rw [if_neg h3, if_neg (by omega)]
set_option maxRecDepth 100000 in
set_option maxHeartbeats 4000000 in
theorem sym_one (W : World) (kf kl g n cap N co : Nat) (a : Option Addr) (l : List Pt) (hN : N ≤ co) (hc : co ≤ 4611686018427387904) (D : List Nat) (p m q : Nat) (hm : m = p + 1) (w : World) (hs : So W kf kl g n cap N a l D w) (hmq : m < q) (hq : q ≤ N) (hp : Pre (ltI l) D p m q) :
    Calls Try.prog 79 #[.slice (some ⟨g, 0, none⟩) N co, .int .i64 p, .int .i64 m, .int .i64 q, .func (.func 64) #[] #[.pointer (some ⟨kf, 0, none⟩), .pointer (some ⟨kl, 0, none⟩)]] w (SymP W kf kl g n cap N a l D p q) := by
  have hcf : ∀ (args : Array Value) (w : World), (callFunc 64 args).run Try.prog w = .ok (.enter 64 args) w := fun _ _ => by kernel_rfl
  have S0 := Lib.hid hs
  have PR := Lib.hid hp
  clear hs hp
  have e1 : (m : Int) - (p : Int) = 1 := by omega
  have HM := Lib.hid hm
  have pm : p < m := by omega
  have LD := Lib.hid S0.out.len
  clear hm
  go_enter Try.func79, Try.ntmps79
  go_wp2_with fail
  go_loopw [10, 11] (fun vi vj wr => ∃ i j : Nat, vi = .int .i64 i ∧ vj = .int .i64 j ∧ m ≤ i ∧ i ≤ j ∧ j ≤ q ∧ So W kf kl g n cap N a l D wr ∧ (∀ t, m ≤ t → t < i → ltI l (gd D t) (gd D p) = true) ∧ (∀ t, j ≤ t → t < q → ltI l (gd D t) (gd D p) = false)) (fun vi vj _ => (intOf vj).toNat - (intOf vi).toNat)
  case atStart => exact ⟨m, q, rfl, rfl, by omega, by omega, by omega, S0.out, fun t h1 h2 => by omega, fun t h1 h2 => by omega⟩
  case round =>
    obtain ⟨i, j, rfl, rfl, hi, hij, hj, hs, ha, hb⟩ := hrel
    have SI := Lib.hid hs
    have HA := Lib.hid ha
    have HB := Lib.hid hb
    clear hs ha hb S0
    by_cases hlt : i < j
    · have lt2 : (i : Int) < (j : Int) := by omega
      go_upto_region 5 with fail
      obtain ⟨h, hh⟩ : ∃ h : Nat, h = (i + j) / 2 := ⟨_, rfl⟩
      rw [show ((i : Int) + (j : Int)) / 2 = (h : Int) by omega]
      have b1 : i ≤ h := by omega
      have b2 : h < j := by omega
      have b3 : (h : Int) < (N : Int) := by omega
      have b4 : (p : Int) < (N : Int) := by omega
      have CM := Lib.hid (fun (x : World) (k : So W kf kl g n cap N a l D x) => k.cmp (i := h) (j := p) (by omega) (by omega))
      clear hh
      obtain ⟨C, hC⟩ : ∃ C, C = ordP (l.getD (gd D h) ⟨0, 0, 0, 0, 0⟩) (l.getD (gd D p) ⟨0, 0, 0, 0, 0⟩) := ⟨_, rfl⟩
      rw [← hC] at CM
      have LT := Lib.hid (show ltI l (gd D h) (gd D p) = decide (C < 0) by rw [hC]; rfl)
      clear hC
      go_cut [50] (fun s wx => s = .bool (decide (C < 0)) ∧ So W kf kl g n cap N a l D wx)
      case first =>
        refine wp_region_J 11 (fun x => So W kf kl g n cap N a l D x) (by kernel_rfl) rfl (by kernel_rfl) (SI.out.keep (Below.refl _ wr).drew) (fun wj hJ hs => ?_)
        have HJ := Lib.hid hJ
        clear hJ
        (refine j_take 0 _ ?_ hs rfl rfl (by kernel_rfl) (by kernel_rfl) HJ.out (fun w' hw' => ?_) ?_; rotate_left; (· skip; go_simp; rfl); (go_simp))
        (refine j_take 1 _ ?_ hs rfl rfl (by kernel_rfl) (by kernel_rfl) HJ.out (fun w' hw' => ?_) ?_; rotate_left; (· skip; go_simp; rfl); (go_simp))
        (refine j_take 2 _ ?_ hs rfl rfl (by kernel_rfl) (by kernel_rfl) HJ.out (fun w' hw' => ?_) ?_; rotate_left; (· skip; go_simp; rfl); (go_simp))
        (refine j_take 3 _ ?_ hs rfl rfl (by kernel_rfl) (by kernel_rfl) HJ.out (fun w' hw' => ?_) ?_; rotate_left; (· skip; go_simp; rfl); (go_simp))
        (refine j_take 4 _ ?_ hs rfl rfl (by kernel_rfl) (by kernel_rfl) HJ.out (fun w' hw' => ?_) ?_; rotate_left; (· obtain ⟨d1, d2, d3, _⟩ := CM.out _ hw'; go_simp; rfl); (go_simp))
        (refine j_take 5 _ ?_ hs rfl rfl (by kernel_rfl) (by kernel_rfl) HJ.out (fun w' hw' => ?_) ?_; rotate_left; (· skip; go_simp; rfl); (go_simp))
        (refine j_take 6 _ ?_ hs rfl rfl (by kernel_rfl) (by kernel_rfl) HJ.out (fun w' hw' => ?_) ?_; rotate_left; (· skip; go_simp; rfl); (go_simp))
        (refine j_take 7 _ ?_ hs rfl rfl (by kernel_rfl) (by kernel_rfl) HJ.out (fun w' hw' => ?_) ?_; rotate_left; (· skip; go_simp; rfl); (go_simp))
        (refine j_take 8 _ ?_ hs rfl rfl (by kernel_rfl) (by kernel_rfl) HJ.out (fun w' hw' => ?_) ?_; rotate_left; (· obtain ⟨d1, d2, d3, _⟩ := CM.out _ hw'; go_simp; rfl); (go_simp))
        refine j_one 9 _ rfl (by kernel_rfl) HJ.out ?_
        go_wp2_with fail
        refine (CM.out _ HJ.out).2.2.2.mono ?_
        rintro e w5 ⟨rfl, b5⟩
        have HJ := Lib.hid (HJ.out.keep b5)
        clear b5
        go_wp2_with fail
        refine ⟨HJ.out, ?_⟩
        (refine j_take 10 _ ?_ hs rfl rfl (by kernel_rfl) (by kernel_rfl) HJ.out (fun w' hw' => ?_) ?_; rotate_left; (· skip; go_simp; rfl); (go_simp))
        refine j_done (by kernel_rfl) ?_
        go_wp2_with fail
        go_meet
        exact ⟨rfl, HJ.out⟩
      case rest =>
        obtain ⟨rfl, h5⟩ := hcut
        have S5 := Lib.hid h5
        clear h5 CM SI
        by_cases hC0 : C < 0
        · have lt3 : ltI l (gd D h) (gd D p) = true := by rw [LT.out]; exact decide_eq_true hC0
          have NA : Hid (∀ t, m ≤ t → t < h + 1 → ltI l (gd D t) (gd D p) = true) := Lib.hid fun t t1 t2 => by
            by_cases e : t = h
            · rw [e]; exact lt3
            · rcases (ltI_wo l).sp (gd D t) lt3 with k | k
              · rw [srt_le (ltI_wo l) PR.out.s2 (i := t) (j := h) t1 (by omega) (by omega)] at k; cases k
              · exact k
          have dC : decide (C < 0) = true := decide_eq_true hC0
          rw [dC]
          clear dC hC0 LT lt3
          go_wp2_with fail
          go_roundw
          case rel => exact ⟨h + 1, j, by go_num, rfl, by omega, by omega, hj, S5.out, NA.out, HB.out⟩
          case measure => simp only [intOf]; omega
        · have lt3 : ltI l (gd D h) (gd D p) = false := by rw [LT.out]; exact decide_eq_false hC0
          have NB : Hid (∀ t, h ≤ t → t < q → ltI l (gd D t) (gd D p) = false) := Lib.hid fun t t1 t2 => (ltI_wo l).nt _ _ _ (srt_le (ltI_wo l) PR.out.s2 (i := h) (j := t) (by omega) t1 t2) lt3
          have dC : decide (C < 0) = false := decide_eq_false hC0
          rw [dC]
          clear dC hC0 LT lt3
          go_wp2_with fail
          go_roundw
          case rel => exact ⟨i, h, rfl, rfl, by omega, by omega, by omega, S5.out, HA.out, NB.out⟩
          case measure => simp only [intOf]; omega
    · obtain rfl : i = j := by omega
      go_wp2_with fail
      go_loopw [13] (fun vk wr => ∃ (k : Nat) (E : List Nat), vk = .int .i64 k ∧ p ≤ k ∧ k ≤ i - 1 ∧ Rt W kf kl g n cap N a l D p (p + 1) (k + 1) E wr) (fun vk _ => i - (intOf vk).toNat)
      case atStart => exact ⟨p, D, rfl, by omega, by omega, SI.out, fun x => by unfold rotF; split <;> (try split) <;> first | rfl | (congr 1; omega)⟩
      case round =>
        clear SI
        obtain ⟨k, E, rfl, k1, k2, hr⟩ := hrel
        have RT := Lib.hid hr
        clear hr
        by_cases hk : k < i - 1
        · have lE := RT.out.s.len
          have NX := Lib.hid (rot_up (D := D) k1 (show k + 1 < E.length by omega) RT.out.e)
          have c0 := RT.out.s.d.cell (getD_get (D := E) (k := k) (by omega))
          have c1 := RT.out.s.d.cell (getD_get (D := E) (k := k + 1) (by omega))
          generalize hx : E.getD k 0 = x at c0 NX
          generalize hy : E.getD (k + 1) 0 = y at c1 NX
          have HX := Lib.hid hx
          have HY := Lib.hid hy
          have f0 := RT.out.s.d.frozen k
          have f1 := RT.out.s.d.frozen (k + 1)
          have lg := RT.out.s.d.lt
          have kk : (k : Int) < (i : Int) - 1 := by omega
          have q0 : 0 ≤ (k : Int) + 1 := by omega
          have q1 : (k : Int) + 1 < (N : Int) := by omega
          have q2 : ((k : Int) + 1).toNat = k + 1 := by omega
          have q3 : IntKind.i64.wrap ((k : Int) + 1) = (k : Int) + 1 := IntWalk.i64_in _ (by omega)
          have q4 : (k : Int) < (N : Int) := by omega
          have kN : k < N := by omega
          have kN1 : k + 1 < N := by omega
          clear hx hy lE
          go_wp2_with fail
          go_region
          all_goals
            go_wp2_with fail
            go_roundw
            case rel => exact ⟨k + 1, _, by go_num, by omega, by omega, by
              have := RT.out.s.sw (p := k) (q := k + 1) (w' := ((wr.drewN 1).setCell ⟨g, k, none⟩ (.int .i64 (y : Int))).setCell ⟨g, k + 1, none⟩ (.int .i64 (x : Int))) kN kN1 (by rw [HX.out, HY.out]; exact (RT.out.s.d.set k y).set (k + 1) x) (by (repeat' (first | assumption | exact Below.refl _ _ | refine below_drewN ?_ _ | refine Below.drew ?_ | refine Below.setCell ?_ (by first | exact Nat.le_refl _ | (simp; done) | (simp; omega)) _ | refine Below.alloc ?_ (by first | exact Nat.le_refl _ | (simp; done) | (simp; omega)) _)))
              rw [HX.out, HY.out] at this
              exact ⟨this, NX.out⟩⟩
            case measure => simp only [intOf]; omega
        · obtain rfl : k = i - 1 := by omega
          have kk : ¬ ((i - 1 : Nat) : Int) < (i : Int) - 1 := by omega
          go_wp2_with fail
          go_end0
          exact ⟨rfl, E, RT.out.s, case_one (ltI_wo l) (HM.out ▸ PR.out) (by rw [RT.out.s.len, LD.out]) (HM.out ▸ hi) hj (fun x => by rw [RT.out.e x, show i - 1 + 1 = i by omega]) (HM.out ▸ HA.out) HB.out⟩
end Go.Proofs.Ytdngkeefbpffcaa
