/-
  What is proved: for every seed, lengths, width and power the law NoiseRows returns true, and its arguments read as before. No conditions.
-/
import Derived.Test.YthdpkmdkoldneaaNsQ
import Derived.Test.YthdpkmdkoldneaaFlG
import Derived.Test.YthdpkmdkoldneaaFlZ
import Derived.Test.YthdpkmdkoldneaaFlL
import Derived.Test.YthdpkmdkoldneaaRows
import Derived.ProofKit
import Derived.OpenShut
set_option autoImplicit false
set_option linter.unusedVariables false
namespace Go.Proofs.Ythdpkmdkoldneaa
open Go.RowKit Go.ChangeShapes Go.WideShapes Go.ChangeAt Lk

theorem Try.own : ownKnob Try.prog.godebug = none := by kernel_rfl
theorem Try.laidOut : laidOutB Try.prog = true := by kernel_rfl
theorem integral_of {x : Nat} (nm : String) (way : Ieee.Toward) (h : ¬ Nan x) : Extern.MathFloor.toIntegral nm way #[.float .f64 x] = pure (.float .f64 (FloatKind.f64.encode ((FloatKind.f64.decode x).integral way))) := by
  have key : ∀ d : Ieee.Datum, (∀ s t, d ≠ .nan s t) → (match d with
      | .nan s t => if FloatKind.f64.format.quiet t = t then pure (Value.float .f64 x) else do
        let kept ← choose (.extern "math.Floor,Ceil,Trunc,RoundToEven.signallingNaN kept" 2)
        pure (Value.float .f64 (if kept == 1 then x else FloatKind.f64.encode (.nan s (FloatKind.f64.format.quiet t))))
      | d => (pure (Value.float .f64 (FloatKind.f64.encode (d.integral way))) : Sem Value)) = pure (Value.float .f64 (FloatKind.f64.encode (d.integral way))) := by
    intro d hd
    cases d with
    | nan s t => exact absurd rfl (hd s t)
    | number _ _ _ => rfl
    | infinity _ => rfl
  refine key (FloatKind.f64.decode x) (fun s t => ?_)
  unfold FloatKind.decode
  rw [fmt64]
  rcases not_nan h with h | h
  · rw [read_fin h]; simp
  · rw [read_inf h]; simp
theorem run_floor {x : Nat} (h : ¬ Nan x) (w : World) : (callFunc 34 #[.float .f64 x]).run Try.prog w = .ok (.value (.float .f64 (flr x))) w := by
  rw [run_callFunc_extern Try.func34 (by kernel_rfl) (by kernel_rfl) (by kernel_rfl) (e := Extern.MathFloor.toIntegral "math.archFloor" .down) (by kernel_rfl), integral_of _ _ h]
  rfl
theorem floor_walk (x : Nat) (w : World) (h : ¬ Nan x) : Calls Try.prog 20 #[.float .f64 x] w (fun e w' => e = .returned (.float .f64 (flr x)) ∧ w = w') := by
  have H := fun w => run_floor h w
  go_enter Try.func20, Try.ntmps20
  go_wp2
  go_ret
  exact ⟨rfl, rfl⟩
theorem row_walk_i (s b wd n : Nat) (L : Int) (w : World) (hL : L = (n : Int)) (hs : s < 2 ^ 64) (hn : n ≤ 16384) (hb : BlN w b s) : Calls Try.prog 17 #[.pointer (some ⟨b, 0, none⟩), .int .i64 L, .float .f64 wd] w
    (fun e w' => ∃ f, e = .returned (.slice (some ⟨w.heap.size, 0, none⟩) n n) ∧ w'.rowIs w.heap.size 40 n (cxv f) ∧ Rw f s wd n ∧ BlN w' b (skp s (24 * n)) ∧ One b w w') := by
  subst hL; exact row_walk s b wd n w hs hn hb
set_option maxRecDepth 100000 in
set_option maxHeartbeats 8000000 in
theorem rows_law (sd : Nat) (n m : Int) (wd : Nat) (k : Int) (w : World) (hs : sd < 2 ^ 64) (n1 : -9223372036854775808 ≤ n) (n2 : n ≤ 9223372036854775807) (m1 : -9223372036854775808 ≤ m) (m2 : m ≤ 9223372036854775807) (hwd : wd < 2 ^ 64) (k1 : -9223372036854775808 ≤ k) (k2 : k ≤ 9223372036854775807) :
    Calls Try.prog 6 #[.int .u64 sd, .int .i64 n, .int .i64 m, .float .f64 wd, .int .i64 k] w (fun e w' => e = .returned (.bool true) ∧ Below w.heap.size w w') := by
  go_enter Try.func6, Try.ntmps6
  go_wp2_with fail
  refine (works_walk _).mono ?_; rintro e w1 ⟨rfl, hB⟩
  by_cases c1 : n < 0
  · go_wp2_with fail
    refine (new_walk sd _).mono ?_; rintro e w2 ⟨rfl, x1, b2, _⟩
    go_wp2_with fail
    refine (row_bad sd _ wd n _ (.inl c1) x1).mono ?_; rintro e w3 ⟨rfl, rfl⟩
    go_wp2_with fail
    refine (state_walk sd _ _ x1).mono ?_; rintro e w4 ⟨rfl, rfl⟩
    go_wp2_with fail
    go_ret
    exact ⟨rfl, hB.trans (b2.mono hB.size)⟩
  · have bad : (m < 0 ∨ 2000 < n ∨ 2000 < m) ∨ (0 ≤ m ∧ n ≤ 2000 ∧ m ≤ 2000) := by omega
    rcases bad with bad | ⟨g1, g2, g3⟩
    · by_cases big : 16384 < n
      · have d2 : 2000 < n := by omega
        clear bad
        by_cases d1 : m < 0
        all_goals
          go_wp2_with fail
          refine (new_walk sd _).mono ?_; rintro e w2 ⟨rfl, x1, b2, _⟩
          go_wp2_with fail
          refine (row_bad sd _ wd n _ (.inr big) x1).mono ?_; rintro e w3 ⟨rfl, rfl⟩
          go_wp2_with fail
          refine (state_walk sd _ _ x1).mono ?_; rintro e w4 ⟨rfl, rfl⟩
          go_wp2_with fail
          go_ret
          exact ⟨rfl, hB.trans (b2.mono hB.size)⟩
      · obtain ⟨N, rfl⟩ := Int.eq_ofNat_of_zero_le (show 0 ≤ n by omega)
        rcases bad with bad | bad | bad
        all_goals
          by_cases d1 : m < 0 <;> by_cases d2 : (2000 : Int) < (N : Int) <;> first
          | omega
          | (go_wp2_with fail
             refine (new_walk sd _).mono ?_; rintro e w2 ⟨rfl, x1, b2, _⟩
             go_wp2_with fail
             refine (row_walk sd _ wd N _ hs (by omega) x1).mono ?_; rintro e w3 ⟨f, rfl, hr, hf, h3, o3⟩
             go_wp2_with fail
             go_ret
             exact ⟨rfl, hB.trans ((b2.mono hB.size).trans (o3.below hB.size (by have := b2.size; have := hB.size; omega)))⟩)
    · obtain ⟨N, rfl⟩ := Int.eq_ofNat_of_zero_le (show 0 ≤ n by omega)
      obtain ⟨M, rfl⟩ := Int.eq_ofNat_of_zero_le g1
      have hNM : wrap64 ((N : Int) + (M : Int)) = (N : Int) + M := by unfold wrap64; omega
      have g2' : N ≤ 2000 := by omega
      have g3' : M ≤ 2000 := by omega
      go_wp2_with fail
      refine (new_walk sd _).mono ?_; rintro e w2 ⟨rfl, x1, b2, z2⟩
      go_wp2_with fail
      refine (new_walk sd _).mono ?_; rintro e w3 ⟨rfl, y1, b3, z3⟩
      have x2 := x1.stay b3
      rw [z2] at y1
      have hxy : w1.heap.size ≠ w1.heap.size + 1 := by omega
      have hB3 : Below w.heap.size w w3 := hB.trans ((b2.mono hB.size).trans (b3.mono (by have := hB.size; omega)))
      have zB := hB.size
      clear x1 b2 b3 hB
      go_wp2_with fail
      refine (row_walk sd _ wd N _ hs (by omega) x2).mono ?_; rintro e w4 ⟨fa, rfl, ra, wa, x3, o4⟩
      have y2 := y1.keep o4 (fun h => hxy h.symm)
      have z4 := o4.size
      go_wp2_with fail
      refine (row_walk _ _ wd M _ (skp_lt' _ _) (by omega) x3).mono ?_; rintro e w5 ⟨fb, rfl, rb, wb, x4, o5⟩
      have y3 := y2.keep o5 (fun h => hxy h.symm)
      have ra2 := ra.of_block (o5.block _ ra.lt (by omega))
      have z5 := o5.size
      go_wp2_with fail
      obtain ⟨T, hT⟩ : ∃ T, N + M = T := ⟨_, rfl⟩
      refine (row_walk_i sd _ wd T _ _ (by omega) hs (by omega) y3).mono ?_; rintro e w6 ⟨fc, rfl, rc', wc, y4, o6⟩
      have x5 := x4.keep o6 hxy
      have ra3 := ra2.of_block (o6.block _ ra2.lt (by have := ra.lt; omega))
      have rb3 := rb.of_block (o6.block _ rb.lt (by have := rb.lt; omega))
      have z6 := o6.size
      have hB6 : Below w.heap.size w w6 := ((hB3.trans (o4.below (by omega) (by omega))).trans (o5.below (by omega) (by omega))).trans (o6.below (by omega) (by omega))
      rw [skp_skp, show 24 * N + 24 * M = 24 * T by omega] at x5
      have hTI : (T : Int) = (N : Int) + M := by omega
      go_wp2_with fail
      refine (state_walk _ _ _ x5).mono ?_; rintro e w7 ⟨rfl, rfl⟩
      go_wp2_with fail
      refine (state_walk _ _ _ y4).mono ?_; rintro e w7 ⟨rfl, rfl⟩
      clear x2 x3 x4 y1 y2 y3 y4 hNM ra ra2 rb o4 o5 o6 hB3
      go_wp2_with fail
      have z3' : w3.heap.size = w1.heap.size + 1 + 1 := by omega
      rw [z3'] at ra3
      go_loopw [115] (fun i wr => ∃ j : Nat, j ≤ T ∧ i = .int .i64 j ∧ wr = w6) (fun i _ => T - (intOf i).toNat)
      case atStart => exact ⟨0, Nat.zero_le _, rfl, rfl⟩
      case round =>
        obtain ⟨j, hj, rfl, rfl⟩ := hrel
        by_cases hlt : j < T
        · have cc : wr.cell? ⟨w5.heap.size, j, none⟩ = some (.complex .f64 (fc j).1 (fc j).2) := rc'.cell hlt
          obtain ⟨d1, d2⟩ := wc j hlt
          generalize (fc j).1 = C1 at *
          generalize (fc j).2 = C2 at *
          have hjT : (j : Int) < (N : Int) + M := by omega
          by_cases hN : j < N
          · have ca : wr.cell? ⟨w1.heap.size + 1 + 1, j, none⟩ = some (.complex .f64 (fa j).1 (fa j).2) := ra3.cell hN
            obtain ⟨a1, a2⟩ := wa j hN
            generalize (fa j).1 = A1 at *
            generalize (fa j).2 = A2 at *
            have hjN : (j : Int) < (N : Int) := by omega
            clear ra3 rb3 rc' wa wb wc
            by_cases hw : Lk.Fin wd
            · have e1 : A1 = C1 := (a1.eq (pr_nn hw).1).trans (d1.eq (pr_nn hw).1).symm
              have e2 : A2 = C2 := (a2.eq (pr_nn hw).2).trans (d2.eq (pr_nn hw).2).symm
              have q1 : (FloatKind.f64.format.order C1 C1 == some Ordering.eq) = true := by
                have := o_self.2 (mt d1.nan.1 (pr_nn (s := skp sd (24 * j)) hw).1); rw [fmt64, this]; rfl
              have q2 : (FloatKind.f64.format.order C2 C2 == some Ordering.eq) = true := by
                have := o_self.2 (mt d2.nan.1 (pr_nn (s := skp sd (24 * j)) hw).2); rw [fmt64, this]; rfl
              subst e1 e2
              clear a1 a2 d1 d2
              go_wp2_with fail
              go_roundw
              case rel => exact ⟨j + 1, by omega, by go_num, by first | rfl | trivial⟩
              case measure => simp [intOf]; omega
            · have hi : Lk.Nan wd ∨ Lk.Inf wd := by rcases fin_or wd with h | h | h; exact absurd h hw; exact .inr h; exact .inl h
              clear a1 a2 d1 d2
              rcases hi with hi | hi
              · have q0 : (FloatKind.f64.format.order wd wd == some Ordering.eq) = false := by
                  rw [fmt64, ← Bool.not_eq_true, beq_iff_eq, o_self]; exact fun h => h hi
                cases b1 : (FloatKind.f64.format.order A1 C1 == some Ordering.eq) <;> cases b2 : (FloatKind.f64.format.order A2 C2 == some Ordering.eq)
                all_goals
                  go_wp2_with fail
                  go_roundw
                  case rel => exact ⟨j + 1, by omega, by go_num, by first | rfl | trivial⟩
                  case measure => simp [intOf]; omega
              · have q0 : (FloatKind.f64.format.order wd wd == some Ordering.eq) = true := by
                  rw [fmt64, beq_iff_eq, o_self]; exact hi.not_nan
                cases b1 : (FloatKind.f64.format.order A1 C1 == some Ordering.eq) <;> cases b2 : (FloatKind.f64.format.order A2 C2 == some Ordering.eq)
                all_goals
                  go_wp2_with (go_at_call 19; refine (isinf_walk _ _ hwd).mono ?_; rw [decide_eq_true hi]; rintro e wi ⟨rfl, rfl⟩)
                  go_roundw
                  case rel => exact ⟨j + 1, by omega, by go_num, by first | rfl | trivial⟩
                  case measure => simp [intOf]; omega
          · obtain ⟨i, hji0⟩ : ∃ i, j = N + i := ⟨j - N, by omega⟩
            have hiM : i < M := by omega
            have cb : wr.cell? ⟨w4.heap.size, j - N, none⟩ = some (.complex .f64 (fb i).1 (fb i).2) := by rw [show j - N = i by omega]; exact rb3.cell hiM
            obtain ⟨a1, a2⟩ := wb i hiM
            rw [(row_pair (s := sd) (wd := wd) (j := i) (n := N)).1, ← hji0] at a1
            rw [(row_pair (s := sd) (wd := wd) (j := i) (n := N)).2, ← hji0] at a2
            generalize (fb i).1 = A1 at *
            generalize (fb i).2 = A2 at *
            have hjN : ¬ (j : Int) < (N : Int) := by omega
            have hji : wrap64 ((j : Int) - (N : Int)) = (i : Int) := by unfold wrap64; omega
            have hiM' : (i : Int) < (M : Int) := by omega
            clear ra3 rb3 rc' wa wb wc hN hji0
            by_cases hw : Lk.Fin wd
            · have e1 : A1 = C1 := (a1.eq (pr_nn hw).1).trans (d1.eq (pr_nn hw).1).symm
              have e2 : A2 = C2 := (a2.eq (pr_nn hw).2).trans (d2.eq (pr_nn hw).2).symm
              have q1 : (FloatKind.f64.format.order C1 C1 == some Ordering.eq) = true := by
                have := o_self.2 (mt d1.nan.1 (pr_nn (s := skp sd (24 * j)) hw).1); rw [fmt64, this]; rfl
              have q2 : (FloatKind.f64.format.order C2 C2 == some Ordering.eq) = true := by
                have := o_self.2 (mt d2.nan.1 (pr_nn (s := skp sd (24 * j)) hw).2); rw [fmt64, this]; rfl
              subst e1 e2
              clear a1 a2 d1 d2
              go_wp2_with fail
              go_roundw
              case rel => exact ⟨j + 1, by omega, by go_num, by first | rfl | trivial⟩
              case measure => simp [intOf]; omega
            · have hi : Lk.Nan wd ∨ Lk.Inf wd := by rcases fin_or wd with h | h | h; exact absurd h hw; exact .inr h; exact .inl h
              clear a1 a2 d1 d2
              rcases hi with hi | hi
              · have q0 : (FloatKind.f64.format.order wd wd == some Ordering.eq) = false := by
                  rw [fmt64, ← Bool.not_eq_true, beq_iff_eq, o_self]; exact fun h => h hi
                cases b1 : (FloatKind.f64.format.order A1 C1 == some Ordering.eq) <;> cases b2 : (FloatKind.f64.format.order A2 C2 == some Ordering.eq)
                all_goals
                  go_wp2_with fail
                  go_roundw
                  case rel => exact ⟨j + 1, by omega, by go_num, by first | rfl | trivial⟩
                  case measure => simp [intOf]; omega
              · have q0 : (FloatKind.f64.format.order wd wd == some Ordering.eq) = true := by
                  rw [fmt64, beq_iff_eq, o_self]; exact hi.not_nan
                cases b1 : (FloatKind.f64.format.order A1 C1 == some Ordering.eq) <;> cases b2 : (FloatKind.f64.format.order A2 C2 == some Ordering.eq)
                all_goals
                  go_wp2_with (go_at_call 19; refine (isinf_walk _ _ hwd).mono ?_; rw [decide_eq_true hi]; rintro e wi ⟨rfl, rfl⟩)
                  go_roundw
                  case rel => exact ⟨j + 1, by omega, by go_num, by first | rfl | trivial⟩
                  case measure => simp [intOf]; omega
        · obtain rfl : j = T := by omega
          clear hTI
          clear ra3 rb3 rc' wa wb wc
          go_wp2_with fail
          go_loopw [148] (fun i wr2 => ∃ q s' : Nat, q ≤ 20 ∧ i = .int .i64 q ∧ s' < 2 ^ 64 ∧ BlN wr2 w1.heap.size s' ∧ Below w.heap.size w wr2) (fun i _ => 20 - (intOf i).toNat)
          case atStart => exact ⟨0, _, by omega, rfl, skp_lt' _ _, x5, hB6⟩
          case round =>
            obtain ⟨q, s', hq, rfl, hs', hX, hBB⟩ := hrel
            clear x5 hB6
            by_cases hq20 : q < 20
            · obtain ⟨t1, t2, t3, t4⟩ := fl_tells s'
              obtain ⟨r1, r2⟩ := bell_tells (nx s')
              unfold fl1 at t1 t2 t3 t4
              have hq' : (q : Int) < 20 := by omega
              go_wp2_with fail
              refine (float_walk s' _ _ hX).mono ?_; rintro e wa ⟨rfl, h1, o1⟩
              generalize flt (mix (nx s') / 2048) = F at *
              have T1 : (FloatKind.f64.format.order F 0 == some Ordering.gt || FloatKind.f64.format.order F 0 == some Ordering.eq) = true := t1
              have T2 : (FloatKind.f64.format.order F 4607182418800017408 == some Ordering.lt) = true := t2
              have T4 : (FloatKind.f64.format.order (fop BinOp.mul F 4845873199050653696) (flr (fop BinOp.mul F 4845873199050653696)) == some Ordering.eq) = true := t4
              have T4p : FloatKind.f64.format.order (fop BinOp.mul F 4845873199050653696) (flr (fop BinOp.mul F 4845873199050653696)) = some Ordering.eq := beq_iff_eq.1 T4
              have T4n : (FloatKind.f64.format.order (fop BinOp.mul F 4845873199050653696) (flr (fop BinOp.mul F 4845873199050653696)) != some Ordering.eq) = false := by unfold bne; rw [T4]; rfl
              have R1 : (FloatKind.f64.format.order (bellF (nx s')) 13841813454723219456 == some Ordering.gt || FloatKind.f64.format.order (bellF (nx s')) 13841813454723219456 == some Ordering.eq) = true := r1
              have R2 : (FloatKind.f64.format.order (bellF (nx s')) 4618441417868443648 == some Ordering.lt || FloatKind.f64.format.order (bellF (nx s')) 4618441417868443648 == some Ordering.eq) = true := r2
              have T3 := Lib.hid t3
              clear t1 t2 t3 t4 r1 r2
              have hBa : Below w.heap.size w wa := hBB.trans (o1.below (by omega) hBB.size)
              clear o1 hBB hX
              go_wp2_with (((with_reducible refine wpList_float (x := ?_) (y := ?_) (X := ?_) (Y := ?_) rfl rfl ?_ ?_ ?_ ?_ ?_ ?_); (· rfl); (rotate_left 4); (· rfl); (· rfl); (· first | assumption | exact Is.refl _); (· first | assumption | exact Is.refl _); intro v n hv hl); have e9 := hv.eq T3.out; subst e9; clear hv)
              refine (bell_walk (nx s') _ _ (nx_lt _) (show BlN (wa.drewN _) _ _ from h1)).mono ?_; rintro e wb ⟨rfl, h2, o2⟩
              have hBb : Below w.heap.size w wb := (below_drewN hBa _).trans (o2.below (by omega) hBa.size)
              clear o2 hBa h1
              generalize bellF (nx s') = B at *
              go_wp2_with (go_at_call 20; refine (floor_walk (fop BinOp.mul F 4845873199050653696) _ T3.out).mono ?_; rintro e wi ⟨rfl, rfl⟩)
              go_roundw
              case rel => exact ⟨q + 1, skp (nx s') 12, by omega, by go_num, skp_lt' _ _, h2, hBb⟩
              case measure => simp [intOf]; omega
            · obtain rfl : q = 20 := by omega
              clear hX
              have hWide : (cge (fabs wd) 3110860544497550640 = true ∧ cle (fabs wd) 6103021453049119613 = true) ∨ ¬ (cge (fabs wd) 3110860544497550640 = true ∧ cle (fabs wd) 6103021453049119613 = true) := Decidable.em _
              cases v1 : cge (fabs wd) 3110860544497550640
              · have V1 : (FloatKind.f64.format.order (fabs wd) 3110860544497550640 == some Ordering.gt || FloatKind.f64.format.order (fabs wd) 3110860544497550640 == some Ordering.eq) = false := v1
                clear hWide v1
                go_wp2_with (go_at_call 21; refine (abs_walk _ _ hwd).mono ?_; rintro e wi ⟨rfl, rfl⟩)
                go_ret
                exact ⟨rfl, hBB⟩
              · have V1 : (FloatKind.f64.format.order (fabs wd) 3110860544497550640 == some Ordering.gt || FloatKind.f64.format.order (fabs wd) 3110860544497550640 == some Ordering.eq) = true := v1
                cases v2 : cle (fabs wd) 6103021453049119613
                · have V2 : (FloatKind.f64.format.order (fabs wd) 6103021453049119613 == some Ordering.lt || FloatKind.f64.format.order (fabs wd) 6103021453049119613 == some Ordering.eq) = false := v2
                  clear hWide v1 v2
                  go_wp2_with (go_at_call 21; refine (abs_walk _ _ hwd).mono ?_; rintro e wi ⟨rfl, rfl⟩)
                  go_ret
                  exact ⟨rfl, hBB⟩
                · have V2 : (FloatKind.f64.format.order (fabs wd) 6103021453049119613 == some Ordering.lt || FloatKind.f64.format.order (fabs wd) 6103021453049119613 == some Ordering.eq) = true := v2
                  have WD : Hid (Wide wd) := Lib.hid ⟨v1, v2⟩
                  clear hWide v1 v2
                  by_cases d1 : k < -100
                  · go_wp2_with (go_at_call 21; refine (abs_walk _ _ hwd).mono ?_; rintro e wi ⟨rfl, rfl⟩)
                    go_ret
                    exact ⟨rfl, hBB⟩
                  · by_cases d2 : 100 < k
                    · go_wp2_with (go_at_call 21; refine (abs_walk _ _ hwd).mono ?_; rintro e wi ⟨rfl, rfl⟩)
                      go_ret
                      exact ⟨rfl, hBB⟩
                    · obtain ⟨b1, b2, b3, b4⟩ := bell_ev sd
                      obtain ⟨b5, b6, b7, b8⟩ := bell_ev (skp sd 12)
                      have S1 := Lib.hid (scaled b1 b2 b3 b4 WD.out (by omega) (by omega : k ≤ 100))
                      have S2 := Lib.hid (scaled b5 b6 b7 b8 WD.out (by omega) (by omega : k ≤ 100))
                      have PN := Lib.hid (pw_norm (k := k) (by omega) (by omega))
                      clear b1 b2 b3 b4 b5 b6 b7 b8
                      have zz := hBB.size
                      go_wp2_with (go_at_call 21; refine (abs_walk _ _ hwd).mono ?_; rintro e wi ⟨rfl, rfl⟩)
                      refine (new_walk sd _).mono ?_; rintro e wc ⟨rfl, s1, bc, zc⟩
                      go_wp2_with fail
                      refine (new_walk sd _).mono ?_; rintro e wd' ⟨rfl, y1, bd, zd⟩
                      have s2 := s1.stay bd
                      rw [zc] at y1
                      have hBd : Below w.heap.size w wd' := (hBB.trans (bc.mono (by omega))).trans (bd.mono (by omega))
                      have hzz : w.heap.size ≤ wr.heap.size := zz
                      clear s1 bc bd hBB
                      go_wp2_with fail
                      have N1 : Norm 4607182418800017408 := by unfold Norm INF; omega
                      refine (Ldexp_walk _ _ _ N1 (pw k) PN.out.2 PN.out.1).mono ?_; rintro e we ⟨rfl, be⟩
                      have s3 := s2.stay be
                      have y2 := y1.stay be
                      have hBe := hBd.trans (be.mono hBd.size)
                      have ze := be.size
                      clear s2 y1 be hBd
                      generalize hpw : pw k = F at *
                      clear hpw
                      go_wp2_with fail
                      refine (pair_walk sd _ wd _ hs s3).mono ?_; rintro e wf ⟨X1, Y1, rfl, hX1, hY1, s4, of⟩
                      have y3 := y2.keep of (by omega)
                      have hBf := hBe.trans (of.below (by omega) hBe.size)
                      clear s3 y2 of hBe
                      have SF := Lib.hid S1.out.2.1.not_nan
                      go_wp2_with (((with_reducible refine wpList_float (x := ?_) (y := ?_) (X := ?_) (Y := ?_) rfl rfl ?_ ?_ ?_ ?_ ?_ ?_); (· rfl); (rotate_left 4); (· rfl); (· rfl); (· first | assumption | exact Is.refl _); (· first | assumption | exact Is.refl _); intro v n hv hl); have e9 := hv.eq SF.out; subst e9; clear hv)
                      refine (pair_walk sd _ (fop BinOp.mul wd F) _ hs (show BlN (wf.drewN _) _ _ from y3)).mono ?_; rintro e wg ⟨X2, Y2, rfl, hX2, hY2, y4, og⟩
                      have hBg : Below w.heap.size w wg := (below_drewN hBf _).trans (og.below (by omega) hBf.size)
                      clear y3 s4 og hBf
                      go_wp2_with (first | (((with_reducible refine wpList_float (x := ?_) (y := ?_) (X := ?_) (Y := ?_) rfl rfl ?_ ?_ ?_ ?_ ?_ ?_); (· rfl); (rotate_left 4); (· rfl); (· rfl); (· first | assumption | exact Is.refl _); (· first | assumption | exact Is.refl _); intro v n hv hl); have e1 : (FloatKind.f64.format.order X2 _ == some Ordering.eq) = true := (ceq_is hX2 hv).trans S1.out.1; clear hv) | (((with_reducible refine wpList_floatg (x := ?_) (y := ?_) (X := ?_) (Y := ?_) rfl rfl ?_ ?_ ?_ ?_ ?_ ?_ ?_); (· rfl); (· rfl); (rotate_left 4); (· rfl); (· rfl); (· first | assumption | exact Is.refl _); (· first | assumption | exact Is.refl _); intro v n hv hl); have e2 : (FloatKind.f64.format.order Y2 _ == some Ordering.eq) = true := (ceq_is hY2 hv).trans S2.out.1; clear hv))
                      go_ret
                      exact ⟨rfl, below_drewN hBg _⟩
theorem rows_args (W : World) (base : Nat) (args : Array Value) (hsz : args.size = Try.f6.params.size) (hval : ∀ (j : Nat) t v, Try.f6.params[j]? = some t → args[j]? = some v → Value.okWide Try.prog W .any base t v) :
    Calls Try.prog 6 args W (fun e w' => e = .returned (.bool true) ∧ Below W.heap.size W w') := by
  rw [Try.params6] at hval hsz
  obtain ⟨l⟩ := args
  match l, hsz with
  | [v0, v1, v2, v3, v4], _ =>
    obtain ⟨x0, rfl, lo0, hi0⟩ := ok_int (t := 22) Try.underlying22 (hval 0 22 v0 rfl rfl)
    obtain ⟨x1, rfl, lo1, hi1⟩ := ok_int (t := 3) Try.underlying3 (hval 1 3 v1 rfl rfl)
    obtain ⟨x2, rfl, lo2, hi2⟩ := ok_int (t := 3) Try.underlying3 (hval 2 3 v2 rfl rfl)
    obtain ⟨x3, rfl, hx3⟩ := ok_float (t := 28) Try.underlying28 (hval 3 28 v3 rfl rfl)
    obtain ⟨x4, rfl, lo4, hi4⟩ := ok_int (t := 3) Try.underlying3 (hval 4 3 v4 rfl rfl)
    obtain ⟨sd, rfl⟩ := Int.eq_ofNat_of_zero_le (show (0 : Int) ≤ x0 from lo0)
    have hsd : sd < 2 ^ 64 := by
      have h : (sd : Int) ≤ 18446744073709551615 := hi0
      omega
    exact rows_law sd x1 x2 x3 x4 W hsd lo1 hi1 lo2 hi2 hx3 lo4 hi4

set_option maxRecDepth 100000 in
theorem rows_lifted (os : Os) (started : os.Started) (H : Type) (enc : TypeId × Value → H) :
    ReturnsInHanded {} Try.checked os 6 .any (Rows.noiseRowsSpec.pre6 enc Try.prog Try.f6 Rows.noiseRowsRow.domain false) (Rows.noiseRowsSpec.post enc Try.prog Try.f6 false true false false) :=
  law_lifted (C := Try.checked) Try.own started (by kernel_rfl) Try.func6
    (ChangeSpec.witness6 (enc := enc) (C := Try.checked) false ⟨#[], #[.int .u64 0, .int .i64 0, .int .i64 0, .float .f64 0, .int .i64 0], []⟩ 8 (by kernel_rfl) (by kernel_rfl) (by kernel_rfl) (by kernel_rfl))
    Try.laidOut (fun t ht => by have ht2 : t ∈ Try.f6.params.toList := ht; rw [Try.params6] at ht2; simp only [List.mem_cons, List.not_mem_nil, or_false] at ht2; rcases ht2 with rfl | rfl | rfl | rfl | rfl <;> exact ⟨by kernel_rfl, of_decide_eq_true (by kernel_rfl)⟩)
    rfl Try.underlying4 rfl (fun ds hd => by have hd2 : ds.length = Try.f6.params.size := hd; rw [Try.params6] at hd2; match ds, hd2 with | [d0, d1, d2, d3, d4], _ => exact ⟨rfl, rfl, rfl⟩) rows_args

theorem rows_holds : Rows.NoiseRowsSaid :=
  OpenClaim.holds_of_wide 6 Try.f6 rfl rfl rfl rfl rfl rfl rfl ⟨rfl, rfl, rfl, rfl, rfl⟩ rfl rfl rfl rfl rfl (by kernel_rfl) Try.func6 (by kernel_rfl)
    (of_decide_eq_true (by kernel_rfl)) (by unfold Func.isWrapper; first | (rw [if_pos (by decide +kernel)]; kernel_rfl) | (rw [if_neg (by decide +kernel)]; exact ⟨rfl, rfl⟩))
    (fun os started H enc _ => rows_lifted os started H enc)
#print axioms rows_holds
end Go.Proofs.Ythdpkmdkoldneaa
