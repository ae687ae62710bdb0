import Derived.Test.YtdngkeefbpffcaaPsF
import Derived.Deep.DeepCutAuto
set_option autoImplicit false
set_option linter.unusedVariables false
namespace Go.Proofs.Ytdngkeefbpffcaa
open Go.RowKit Lk Pl
def SymAll (W : World) (kf kl g n cap N co : Nat) (a : Option Addr) (l : List Pt) (F : Nat) : Prop :=
  ∀ (D : List Nat) (p m q : Nat) (w : World), q - p ≤ F → So W kf kl g n cap N a l D w → p < m → m < q → q ≤ N → Pre (ltI l) D p m q →
    Calls Try.prog 79 #[.slice (some ⟨g, 0, none⟩) N co, .int .i64 p, .int .i64 m, .int .i64 q, .func (.func 64) #[] #[.pointer (some ⟨kf, 0, none⟩), .pointer (some ⟨kl, 0, none⟩)]] w (SymP W kf kl g n cap N a l D p q)
theorem rot_id {f : Nat → Nat} {s m e : Nat} (h : ¬ (s < m ∧ m < e)) (h1 : s ≤ m) (h2 : m ≤ e) (k : Nat) : f k = rotF f s m e k := by
  unfold rotF
  split
  · split <;> (congr 1; omega)
  · rfl
theorem pre_congr {lt : Nat → Nat → Bool} {D E : List Nat} {a m b : Nat} (h : Pre lt D a m b) (e : ∀ k, a ≤ k → gd E k = gd D k) (h1 : a ≤ m) : Pre lt E a m b :=
  ⟨h.s1.congr fun k k1 _ => e k k1, h.s2.congr fun k k1 _ => e k (by omega), fun i j i1 i2 j1 j2 => by rw [e i i1, e j (by omega)]; exact h.pl i j i1 i2 j1 j2⟩
set_option maxRecDepth 100000 in
set_option maxHeartbeats 8000000 in
theorem sym_gen (W : World) (kf kl g n cap N co : Nat) (a : Option Addr) (l : List Pt) (hN : N ≤ co) (hc : co ≤ 4611686018427387904) (F : Nat) (ih : SymAll W kf kl g n cap N co a l F) (D : List Nat) (p m q : Nat) (w : World) (hF : q - p ≤ F + 1) (hs : So W kf kl g n cap N a l D w) (hpm : p + 1 < m) (hmq : m + 1 < q) (hq : q ≤ N) (hp : Pre (ltI l) D p m q) :
    Calls Try.prog 79 #[.slice (some ⟨g, 0, none⟩) N co, .int .i64 p, .int .i64 m, .int .i64 q, .func (.func 64) #[] #[.pointer (some ⟨kf, 0, none⟩), .pointer (some ⟨kl, 0, none⟩)]] w (SymP W kf kl g n cap N a l D p q) := by
  have hcf : ∀ (args : Array Value) (w : World), (callFunc 64 args).run Try.prog w = .ok (.enter 64 args) w := fun _ _ => by kernel_rfl
  have S0 := Lib.hid hs
  have PR := Lib.hid hp
  have IH := Lib.hid ih
  have LD := Lib.hid hs.len
  clear hs hp ih
  have e0 : (((m : Int) - (p : Int)) == 1) = false := by rw [beq_eq_false_iff_ne]; omega
  have e00 : ¬ (m : Int) - (p : Int) = 1 := by omega
  have e1 : (((q : Int) - (m : Int)) == 1) = false := by rw [beq_eq_false_iff_ne]; omega
  have e11 : ¬ (q : Int) - (m : Int) = 1 := by omega
  obtain ⟨b1, b2, b3, b4, b5, b6⟩ := st_bd (p := p) (m := m) (q := q) (by omega) (by omega)
  have T0 := Lib.hid (show st0 p m q = if (p + q) / 2 < m then (p + q) / 2 + m - q else p from rfl)
  have T1 := Lib.hid (show st1 p m q = if (p + q) / 2 < m then (p + q) / 2 else m from rfl)
  have FS := Lib.hid (Fnd.start (lt := ltI l) (D := D) (p := p) (m := m) (q := q) (by omega) (by omega))
  obtain ⟨M, hM⟩ : ∃ M, M = (p + q) / 2 := ⟨_, rfl⟩
  rw [← hM] at b4 b5 b6 T0 T1
  have M1 : p < M := by omega
  have M2 : M < q := by omega
  have HM := Lib.hid hM
  generalize hA : st0 p m q = A at *
  generalize hB : st1 p m q = B at *
  have HA := Lib.hid hA
  have HB := Lib.hid hB
  have eM : ((p : Int) + (q : Int)) / 2 = (M : Int) := by omega
  have EM := Lib.hid eM
  clear hM hA hB eM
  go_enter Try.func79, Try.ntmps79
  go_upto_if 140 with fail
  rw [EM.out]
  go_cut [20, 21] (fun v20 v21 wx => v20 = .int .i64 A ∧ v21 = .int .i64 B ∧ wx = w)
  case first =>
    by_cases c : M < m
    · have c2 : (M : Int) < (m : Int) := by omega
      have a1 : (A : Int) = (M : Int) + (m : Int) - (q : Int) := by rw [T0.out, if_pos c]; have := HM.out; omega
      have a2 : (B : Int) = (M : Int) := by rw [T1.out, if_pos c]
      have AA := Lib.hid a1
      have BB := Lib.hid a2
      clear a1 a2
      go_wp2_with fail
      go_meet
      exact ⟨by rw [AA.out], by rw [BB.out], rfl⟩
    · have c2 : ¬ (M : Int) < (m : Int) := by omega
      have a1 : (A : Int) = (p : Int) := by rw [T0.out, if_neg c]
      have a2 : (B : Int) = (m : Int) := by rw [T1.out, if_neg c]
      have AA := Lib.hid a1
      have BB := Lib.hid a2
      clear a1 a2
      go_wp2_with fail
      go_meet
      exact ⟨by rw [AA.out], by rw [BB.out], rfl⟩
  case rest =>
    obtain ⟨rfl, rfl, rfl⟩ := hcut
    obtain ⟨P, hP⟩ : ∃ P : Nat, P = M + m - 1 := ⟨_, rfl⟩
    have EP : Hid ((M : Int) + (m : Int) - 1 = (P : Int)) := Lib.hid (by omega)
    have HP := Lib.hid hP
    clear hP
    go_wp2_with fail
    rw [EP.out]
    clear T0 T1 HA HB b1 b2 b3 b4 b5 e0 e00 e1 e11
    go_loopw [20, 21] (fun vi vj wr => ∃ s r : Nat, vi = .int .i64 s ∧ vj = .int .i64 r ∧ So W kf kl g n cap N a l D wr ∧ Fnd (ltI l) D p m q s r) (fun vi vj _ => (intOf vj).toNat - (intOf vi).toNat)
    case atStart => exact ⟨A, B, rfl, rfl, S0.out, FS.out⟩
    case round =>
      obtain ⟨s, r, rfl, rfl, hs, hf⟩ := hrel
      have SI := Lib.hid hs
      have FN := Lib.hid hf
      obtain ⟨b1, b2, b3, b4, b5, _⟩ := st_bd (p := p) (m := m) (q := q) (by omega) (by omega)
      rw [← HM.out] at b4 b5
      have g1 : p ≤ s := Nat.le_trans b1 hf.s0
      have g2 : s ≤ r := hf.sr
      have g3 : r ≤ m := Nat.le_trans hf.r1 b3
      have g4 : r ≤ M := Nat.le_trans hf.r1 b4
      have g5 : M + m - q ≤ s := Nat.le_trans b5 hf.s0
      clear hs hf S0 FS b1 b2 b3 b4 b5
      by_cases hlt : s < r
      · have lt2 : (s : Int) < (r : Int) := by omega
        go_upto_region 35 with fail
        obtain ⟨h, hh⟩ : ∃ h : Nat, h = (s + r) / 2 := ⟨_, rfl⟩
        rw [show ((s : Int) + (r : Int)) / 2 = (h : Int) by omega]
        have b1 : s ≤ h := by omega
        have b2 : h < r := by omega
        have b3 : (h : Int) < (N : Int) := by omega
        obtain ⟨c, hc0⟩ : ∃ c : Nat, c = P - h := ⟨_, rfl⟩
        have pq := HP.out
        have i1 : 0 ≤ (P : Int) - (h : Int) := by omega
        have i2 : (P : Int) - (h : Int) < (N : Int) := by omega
        have i3 : ((P : Int) - (h : Int)).toNat = c := by omega
        have i4 : IntKind.i64.wrap ((P : Int) - (h : Int)) = (P : Int) - (h : Int) := IntWalk.i64_in _ (by omega)
        have i5 : h ≤ P := by omega
        have hcM : c = (p + q) / 2 + m - 1 - h := by rw [← HM.out]; omega
        have HC := Lib.hid hcM
        have CM := Lib.hid (fun (x : World) (k : So W kf kl g n cap N a l D x) => k.cmp (i := c) (j := h) (by omega) (by omega))
        clear hh hc0 pq hcM
        obtain ⟨C, hC⟩ : ∃ C, C = ordP (l.getD (gd D c) ⟨0, 0, 0, 0, 0⟩) (l.getD (gd D h) ⟨0, 0, 0, 0, 0⟩) := ⟨_, rfl⟩
        rw [← hC] at CM
        have LT := Lib.hid (show ltI l (gd D c) (gd D h) = decide (C < 0) by rw [hC]; rfl)
        clear hC
        go_cut [171] from 158 to 171 (fun s wx => s = .bool (!decide (C < 0)) ∧ So W kf kl g n cap N a l D wx)
        case first =>
          refine wp_region_J 14 (fun x => So W kf kl g n cap N a l D x) (by kernel_rfl) rfl (by kernel_rfl) (SI.out.keep (Below.refl _ wr).drew) (fun wj hJ hs => ?_)
          have HJ := Lib.hid hJ
          clear hJ
          (refine j_take 0 _ ?_ hs rfl rfl (by kernel_rfl) (by kernel_rfl) HJ.out (fun w' hw' => ?_) ?_; rotate_left; (· skip; go_simp; rfl); (go_simp))
          (refine j_take 1 _ ?_ hs rfl rfl (by kernel_rfl) (by kernel_rfl) HJ.out (fun w' hw' => ?_) ?_; rotate_left; (· skip; go_simp; rfl); (go_simp))
          (refine j_take 2 _ ?_ hs rfl rfl (by kernel_rfl) (by kernel_rfl) HJ.out (fun w' hw' => ?_) ?_; rotate_left; (· skip; go_simp; rfl); (go_simp))
          (refine j_take 3 _ ?_ hs rfl rfl (by kernel_rfl) (by kernel_rfl) HJ.out (fun w' hw' => ?_) ?_; rotate_left; (· skip; go_simp; rfl); (go_simp))
          (refine j_take 4 _ ?_ hs rfl rfl (by kernel_rfl) (by kernel_rfl) HJ.out (fun w' hw' => ?_) ?_; rotate_left; (· skip; go_simp; rfl); (go_simp))
          (refine j_take 5 _ ?_ hs rfl rfl (by kernel_rfl) (by kernel_rfl) HJ.out (fun w' hw' => ?_) ?_; rotate_left; (· skip; go_simp; rfl); (go_simp))
          (refine j_take 6 _ ?_ hs rfl rfl (by kernel_rfl) (by kernel_rfl) HJ.out (fun w' hw' => ?_) ?_; rotate_left; (· obtain ⟨d1, d2, d3, _⟩ := CM.out _ hw'; go_simp; rfl); (go_simp))
          (refine j_take 7 _ ?_ hs rfl rfl (by kernel_rfl) (by kernel_rfl) HJ.out (fun w' hw' => ?_) ?_; rotate_left; (· skip; go_simp; rfl); (go_simp))
          (refine j_take 8 _ ?_ hs rfl rfl (by kernel_rfl) (by kernel_rfl) HJ.out (fun w' hw' => ?_) ?_; rotate_left; (· skip; go_simp; rfl); (go_simp))
          (refine j_take 9 _ ?_ hs rfl rfl (by kernel_rfl) (by kernel_rfl) HJ.out (fun w' hw' => ?_) ?_; rotate_left; (· skip; go_simp; rfl); (go_simp))
          (refine j_take 10 _ ?_ hs rfl rfl (by kernel_rfl) (by kernel_rfl) HJ.out (fun w' hw' => ?_) ?_; rotate_left; (· obtain ⟨d1, d2, d3, _⟩ := CM.out _ hw'; go_simp; rfl); (go_simp))
          refine j_one 11 _ rfl (by kernel_rfl) HJ.out ?_
          go_wp2_with fail
          refine (CM.out _ HJ.out).2.2.2.mono ?_
          rintro e w5 ⟨rfl, b5⟩
          have HJ := Lib.hid (HJ.out.keep b5)
          clear b5
          go_wp2_with fail
          refine ⟨HJ.out, ?_⟩
          (refine j_take 12 _ ?_ hs rfl rfl (by kernel_rfl) (by kernel_rfl) HJ.out (fun w' hw' => ?_) ?_; rotate_left; (· skip; go_simp; rfl); (go_simp))
          (refine j_take 13 _ ?_ hs rfl rfl (by kernel_rfl) (by kernel_rfl) HJ.out (fun w' hw' => ?_) ?_; rotate_left; (· skip; go_simp; rfl); (go_simp))
          refine j_done (by kernel_rfl) ?_
          go_wp2_with fail
          go_meet
          exact ⟨rfl, HJ.out⟩
        case rest =>
          obtain ⟨rfl, h5⟩ := hcut
          have S5 := Lib.hid h5
          clear h5 CM SI
          by_cases hC0 : C < 0
          · have lt3 : ltI l (gd D c) (gd D h) = true := by rw [LT.out]; exact decide_eq_true hC0
            rw [HC.out] at lt3
            have NF := Lib.hid (FN.out.down (ltI_wo l) PR.out (by omega) (by omega) b1 b2 lt3)
            have dC : decide (C < 0) = true := decide_eq_true hC0
            rw [dC]
            clear dC hC0 LT lt3 i1 i2 i3 i4 i5
            go_wp2_with fail
            go_roundw
            case rel => exact ⟨s, h, rfl, rfl, S5.out, NF.out⟩
            case measure => simp only [intOf]; omega
          · have lt3 : ltI l (gd D c) (gd D h) = false := by rw [LT.out]; exact decide_eq_false hC0
            rw [HC.out] at lt3
            have NF := Lib.hid (FN.out.up (ltI_wo l) PR.out (by omega) (by omega) b1 b2 lt3)
            have dC : decide (C < 0) = false := decide_eq_false hC0
            rw [dC]
            clear dC hC0 LT lt3 i1 i2 i3 i4 i5
            go_wp2_with fail
            go_roundw
            case rel => exact ⟨h + 1, r, by go_num, rfl, S5.out, NF.out⟩
            case measure => simp only [intOf]; omega
      · obtain rfl : s = r := by omega
        obtain ⟨e, he⟩ : ∃ e : Nat, e = M + m - s := ⟨_, rfl⟩
        have EE : Hid ((M : Int) + (m : Int) - (s : Int) = (e : Int)) := Lib.hid (by omega)
        have h1 : m ≤ e := by omega
        have h2 : e ≤ q := by omega
        have h3 : s + (e - m) = M := by omega
        obtain ⟨x1, x2⟩ := FN.out.parts (ltI_wo l) PR.out (by omega) (by omega)
        rw [← HM.out, ← he] at x1 x2
        have X1 := Lib.hid x1
        have X2 := Lib.hid x2
        have H3 := Lib.hid h3
        clear x1 x2 he FN h3
        go_upto_region 39 with fail
        rw [EE.out]
        go_cut [185] from 175 to 185 (fun v wx => v = .bool (decide (s < m ∧ m < e)) ∧ wr = wx)
        case first =>
          by_cases c1 : s < m
          · have c2 : (s : Int) < (m : Int) := by omega
            by_cases c3 : m < e
            · have c4 : (m : Int) < (e : Int) := by omega
              go_wp2_with fail
              go_meet
              exact ⟨by rw [decide_eq_true ⟨c1, c3⟩], rfl⟩
            · have c4 : ¬ (m : Int) < (e : Int) := by omega
              go_wp2_with fail
              go_meet
              exact ⟨by rw [decide_eq_false (fun k => c3 k.2)], rfl⟩
          · have c2 : ¬ (s : Int) < (m : Int) := by omega
            go_wp2_with fail
            go_meet
            exact ⟨by rw [decide_eq_false (fun k => c1 k.1)], rfl⟩
        case rest =>
          obtain ⟨rfl, rfl⟩ := hcut
          have hrt : ∀ (k : s < m ∧ m < e), Calls Try.prog 80 #[.slice (some ⟨g, 0, none⟩) N co, .int .i64 s, .int .i64 m, .int .i64 e, .func (.func 64) #[] #[.pointer (some ⟨kf, 0, none⟩), .pointer (some ⟨kl, 0, none⟩)]] wr (fun e' w' => e' = .returned (.tuple #[]) ∧ ∃ E, So W kf kl g n cap N a l E w' ∧ ∀ k, gd E k = rotF (gd D) s m e k) := fun k => rot_walk W kf kl g n cap N co a l D s m e wr SI.out hN (by omega) k.1 k.2 (by omega)
          have HRT := Lib.hid hrt
          clear hrt
          go_upto_if 185 with fail
          go_cut [] from 185 to 191 (fun wx => ∃ E, So W kf kl g n cap N a l E wx ∧ ∀ k, gd E k = rotF (gd D) s m e k)
          case first =>
            by_cases hb : s < m ∧ m < e
            · rw [decide_eq_true hb]
              go_wp2_with fail
              refine (HRT.out hb).mono ?_
              rintro e9 w9 ⟨rfl, E, h9, hE⟩
              have H9 := Lib.hid h9
              have HE := Lib.hid hE
              clear h9 hE
              go_wp2_with fail
              go_meet
              exact ⟨E, H9.out, HE.out⟩
            · rw [decide_eq_false hb]
              go_wp2_with fail
              go_meet
              exact ⟨D, SI.out, rot_id hb (by omega) h1⟩
          case rest =>
            obtain ⟨E, h9, hE⟩ := hcut
            have lE : E.length = D.length := by rw [h9.len, LD.out]
            obtain ⟨q1, q2, q3⟩ := halves (ltI_wo l) PR.out g1 g3 h1 h2 hE X1.out X2.out
            rw [H3.out] at q1 q2 q3
            have SMR := Lib.hid ((rot_sm lE g3 h1 hE).wide g1 h2)
            have Q1 := Lib.hid q1
            have Q2 := Lib.hid q2
            have Q3 := Lib.hid q3
            have S9 := Lib.hid h9
            have k1 : M ≤ e := by have := H3.out; omega
            clear q1 q2 q3 h9 hE lE HRT X1 X2
            go_upto_region 41 with fail
            go_cut [199] from 192 to 199 (fun v wx => v = .bool (decide (p < s ∧ s < M)) ∧ So W kf kl g n cap N a l E wx)
            case first =>
              by_cases c1 : p < s
              · have c2 : (p : Int) < (s : Int) := by omega
                by_cases c3 : s < M
                · have c4 : (s : Int) < (M : Int) := by omega
                  go_wp2_with fail
                  go_meet
                  exact ⟨by rw [decide_eq_true ⟨c1, c3⟩], S9.out⟩
                · have c4 : ¬ (s : Int) < (M : Int) := by omega
                  go_wp2_with fail
                  go_meet
                  exact ⟨by rw [decide_eq_false (fun k => c3 k.2)], S9.out⟩
              · have c2 : ¬ (p : Int) < (s : Int) := by omega
                go_wp2_with fail
                go_meet
                exact ⟨by rw [decide_eq_false (fun k => c1 k.1)], S9.out⟩
            case rest =>
              obtain ⟨rfl, hw0⟩ := hcut
              have W0 := Lib.hid hw0
              clear hw0
              have HC0 := Lib.hid (fun (x : World) (hx : So W kf kl g n cap N a l E x) (k : p < s ∧ s < M) => IH.out E p s M x (by omega) hx k.1 k.2 (by omega) Q1.out)
              go_upto_if 199 with fail
              go_cut [] from 199 to 205 (fun wx => ∃ E2, So W kf kl g n cap N a l E2 wx ∧ Post (ltI l) E E2 p M)
              case first =>
                by_cases hb : p < s ∧ s < M
                · rw [decide_eq_true hb]
                  go_wp2_with fail
                  refine (HC0.out _ W0.out hb).mono ?_
                  rintro e9 w9 ⟨rfl, E2, h9, hE⟩
                  have H9 := Lib.hid h9
                  have HE := Lib.hid hE
                  clear h9 hE
                  go_wp2_with fail
                  go_meet
                  exact ⟨E2, H9.out, HE.out⟩
                · rw [decide_eq_false hb]
                  go_wp2_with fail
                  go_meet
                  exact ⟨E, W0.out, Sm.refl _ _ _, Q1.out.flat hb (by omega) (by omega)⟩
              case rest =>
                obtain ⟨E2, h2', p2⟩ := hcut
                have Q3b := Lib.hid (pre_congr (E := E2) Q2.out (fun k k1 => p2.1.out k (by omega)) (by omega))
                have S2 := Lib.hid h2'
                have P2 := Lib.hid p2
                clear h2' p2 HC0 W0 S9
                go_upto_region 43 with fail
                go_cut [213] from 206 to 213 (fun v wx => v = .bool (decide (M < e ∧ e < q)) ∧ So W kf kl g n cap N a l E2 wx)
                case first =>
                  by_cases c1 : M < e
                  · have c2 : (M : Int) < (e : Int) := by omega
                    by_cases c3 : e < q
                    · have c4 : (e : Int) < (q : Int) := by omega
                      go_wp2_with fail
                      go_meet
                      exact ⟨by rw [decide_eq_true ⟨c1, c3⟩], S2.out⟩
                    · have c4 : ¬ (e : Int) < (q : Int) := by omega
                      go_wp2_with fail
                      go_meet
                      exact ⟨by rw [decide_eq_false (fun k => c3 k.2)], S2.out⟩
                  · have c2 : ¬ (M : Int) < (e : Int) := by omega
                    go_wp2_with fail
                    go_meet
                    exact ⟨by rw [decide_eq_false (fun k => c1 k.1)], S2.out⟩
                case rest =>
                  obtain ⟨rfl, hw0⟩ := hcut
                  have W0 := Lib.hid hw0
                  clear hw0
                  have HC0 := Lib.hid (fun (x : World) (hx : So W kf kl g n cap N a l E2 x) (k : M < e ∧ e < q) => IH.out E2 M e q x (by omega) hx k.1 k.2 (by omega) Q3b.out)
                  by_cases hb : M < e ∧ e < q
                  · rw [decide_eq_true hb]
                    go_wp2_with fail
                    refine (HC0.out _ W0.out hb).mono ?_
                    rintro e9 w9 ⟨rfl, E3, h9, hE⟩
                    have H9 := Lib.hid h9
                    have HE := Lib.hid hE
                    clear h9 hE
                    go_wp2_with fail
                    go_end0
                    exact ⟨rfl, E3, H9.out, whole (ltI_wo l) SMR.out (Nat.le_of_lt M1) (Nat.le_of_lt M2) Q3.out P2.out HE.out⟩
                  · rw [decide_eq_false hb]
                    go_wp2_with fail
                    go_end0
                    exact ⟨rfl, E2, W0.out, whole (ltI_wo l) SMR.out (Nat.le_of_lt M1) (Nat.le_of_lt M2) Q3.out P2.out ⟨Sm.refl _ _ _, Q3b.out.flat hb (by omega) (by omega)⟩⟩
/-- symMerge, whatever it is given -/
theorem sym_walk (W : World) (kf kl g n cap N co : Nat) (a : Option Addr) (l : List Pt) (hN : N ≤ co) (hc : co ≤ 4611686018427387904) : ∀ F, SymAll W kf kl g n cap N co a l F
  | 0 => fun D p m q w hF hs h1 h2 h3 hp => by omega
  | F + 1 => fun D p m q w hF hs h1 h2 h3 hp => by
    by_cases c1 : m = p + 1
    · exact sym_one W kf kl g n cap N co a l hN hc D p m q c1 w hs h2 h3 hp
    · by_cases c2 : q = m + 1
      · exact sym_last W kf kl g n cap N co a l hN hc D p m q c2 w hs (by omega) h3 hp
      · exact sym_gen W kf kl g n cap N co a l hN hc F (sym_walk W kf kl g n cap N co a l hN hc F) D p m q w hF hs (by omega) (by omega) h3 hp
end Go.Proofs.Ytdngkeefbpffcaa
