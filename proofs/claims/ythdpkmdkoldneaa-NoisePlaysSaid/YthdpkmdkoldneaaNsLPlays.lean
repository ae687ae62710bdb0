/-
  What is proved: for every two seeds and every list of things asked the law NoisePlays returns true, and its arguments read as before. No conditions.
-/
import Derived.Test.YthdpkmdkoldneaaNsS6
import Derived.Test.YthdpkmdkoldneaaFlL
import Derived.Test.YthdpkmdkoldneaaFlS
import Derived.Test.YthdpkmdkoldneaaRows
import Derived.ProofKit
import Derived.OpenShut
set_option autoImplicit false
set_option linter.unusedVariables false
namespace Go.Proofs.Ythdpkmdkoldneaa
open Go.RowKit Go.ChangeShapes Go.WideShapes Go.ChangeAt Lk

theorem Try.own : ownKnob Try.prog.godebug = none := by kernel_rfl
theorem Try.laidOut : laidOutB Try.prog = true := by kernel_rfl
/-- what is asked, in its cells -/
structure AtO (W : World) (B o : Nat) (k n : Int) (p x : Nat) : Prop where
  c0 : W.cell? ⟨B, o, none⟩ = some (.int .i64 k)
  c1 : W.cell? ⟨B, o + 1, none⟩ = some (.int .i64 n)
  c2 : W.cell? ⟨B, o + 2, none⟩ = some (.int .u64 p)
  c3 : W.cell? ⟨B, o + 3, none⟩ = some (.float .f64 x)
theorem AtO.keep {W w' : World} {B o : Nat} {k n : Int} {p x : Nat} (h : AtO W B o k n p x) (b0 : Nat) (hB : B < b0) (hb : Below b0 W w') : AtO w' B o k n p x :=
  ⟨(hb.cell (p := ⟨B, o, none⟩) hB).trans h.c0, (hb.cell (p := ⟨B, o + 1, none⟩) hB).trans h.c1, (hb.cell (p := ⟨B, o + 2, none⟩) hB).trans h.c2, (hb.cell (p := ⟨B, o + 3, none⟩) hB).trans h.c3⟩
theorem Bth.stay {w w' : World} {b c s : Nat} (h : Bth w b c s) (o : Below w.heap.size w w') : Bth w' b c s := ⟨h.n.stay o, h.r.stay o, h.lt⟩
theorem Bth.two {w w' : World} {b c x y s : Nat} (h : Bth w x y s) (o : Two b c w w') (h1 : x ≠ b) (h2 : x ≠ c) (h3 : y ≠ b) (h4 : y ≠ c) : Bth w' x y s :=
  ⟨(o.block x h.n.lt h1 h2).trans h.n, (o.block y h.r.lt h3 h4).trans h.r, h.lt⟩
set_option maxHeartbeats 8000000 in
theorem plays_law (sd oth : Nat) (ao : Option Addr) (len cap : Nat) (w : World) (hs : sd < 2 ^ 64) (ho : oth < 2 ^ 64) (hlen : len ≤ 9223372036854775807)
    (hc : len = 0 ∨ ∃ b off, b < w.heap.size ∧ ao = some ⟨b, off, none⟩ ∧ ∀ i, i < len → ∃ k n p x, AtO w b (off + i * 4) k n p x) :
    Calls Try.prog 4 #[.int .u64 sd, .int .u64 oth, .slice ao len cap] w (fun e w' => e = .returned (.bool true) ∧ Below w.heap.size w w') := by
  have HC := Lib.hid hc
  clear hc
  go_enter Try.func4, Try.ntmps4
  go_wp2_with fail
  refine (new_walk sd _).mono ?_; rintro e w1 ⟨rfl, a1, b1, z1⟩
  go_wp2_with fail
  refine (new_walk oth _).mono ?_; rintro e w2 ⟨rfl, a2, b2, z2⟩
  have a1 := a1.stay b2
  rw [z1] at a2
  go_wp2_with fail
  refine (rnew_walk sd _).mono ?_; rintro e w3 ⟨rfl, r1, b3, z3⟩
  have a1 := a1.stay b3
  have a2 := a2.stay b3
  rw [z2, z1] at r1
  go_wp2_with fail
  refine (rnew_walk oth _).mono ?_; rintro e w4 ⟨rfl, r2, b4, z4⟩
  have a1 := a1.stay b4
  have a2 := a2.stay b4
  have r1 := r1.stay b4
  rw [z3, z2, z1] at r2
  have hB4 : Below w.heap.size w w4 := ((b1.trans (b2.mono (by omega))).trans (b3.mono (by omega))).trans (b4.mono (by omega))
  have PA : Hid (Bth w4 w.heap.size (w.heap.size + 1 + 1) sd) := Lib.hid ⟨a1, r1, hs⟩
  have PB : Hid (Bth w4 (w.heap.size + 1) (w.heap.size + 1 + 1 + 1) oth) := Lib.hid ⟨a2, r2, ho⟩
  clear a1 a2 r1 r2 b1 b2 b3 b4 hs ho
  go_wp2_with fail
  go_loopw [11, 12, 32] (fun wh wk i wr => ∃ (k m : Nat) (q : Int) (s t : Nat), k ≤ len ∧ i = .int .i64 k ∧ wh = .int .i64 m ∧ m ≤ k ∧ wk = .int .i64 q ∧ (0 ≤ q ∧ q ≤ 1048576) ∧ Bth wr w.heap.size (w.heap.size + 1 + 1) s ∧ Bth wr (w.heap.size + 1) (w.heap.size + 1 + 1 + 1) t ∧ Below w.heap.size w wr) (fun _ _ i _ => len - (intOf i).toNat)
  case atStart => exact ⟨0, 0, 0, sd, oth, Nat.zero_le _, rfl, rfl, Nat.le_refl _, rfl, by omega, PA.out, PB.out, hB4⟩
  case round =>
    clear PA PB hB4 z1 z2 z3 z4
    obtain ⟨k, m, q, s, t, hk, rfl, rfl, hm, rfl, hq, hA, hBt, hW⟩ := hrel
    have A := Lib.hid hA
    have B := Lib.hid hBt
    have WW := Lib.hid hW
    have zw := hW.size
    clear hA hBt hW
    by_cases hlt : k < len
    · obtain h0 | ⟨b0, off, hb0, rfl, hc⟩ := HC.out
      · omega
      · obtain ⟨kk, nn, pp, xx, hat⟩ := hc k hlt
        have hat := hat.keep _ hb0 WW.out
        obtain ⟨c0, c1, c2, c3⟩ := hat
        clear hc
        have hk64 : (k : Int) < len := by omega
        have hz0 : b0 < wr.heap.size := by omega
        have e0 : Below wr.heap.size wr (wr.alloc (Obj.cells #[Value.int IntKind.i64 kk, Value.int IntKind.i64 nn, Value.int IntKind.u64 pp, Value.float FloatKind.f64 xx] 35)) := (Below.refl _ _).alloc (Nat.le_refl _) _
        have A2 := Lib.hid (A.out.stay e0)
        have B2 := Lib.hid (B.out.stay e0)
        have W2 : Hid (Below w.heap.size w (wr.alloc (Obj.cells #[Value.int IntKind.i64 kk, Value.int IntKind.i64 nn, Value.int IntKind.u64 pp, Value.float FloatKind.f64 xx] 35))) := Lib.hid (WW.out.trans (e0.mono zw))
        have hm1 : wrap64 ((m : Int) + 1) = (m : Int) + 1 := by unfold wrap64; omega
        have hk1 : wrap64 ((k : Int) + 1) = (k : Int) + 1 := by unfold wrap64; omega
        clear A B WW e0
        by_cases d1 : kk < 0
        · have d4 : ¬ kk = 4 := by omega
          have hr3 : (m + 1) % 3 = 0 ∨ (m + 1) % 3 = 1 ∨ (m + 1) % 3 = 2 := by omega
          rcases hr3 with hr | hr | hr
          · have ht : ((m : Int) + 1).tmod 3 = 0 := by rw [Int.tmod_eq_emod_of_nonneg (by omega)]; omega
            clear hr
            go_wp2_with fail
            refine (step_walk _ _ s kk nn pp xx _ (by omega) A2.out).mono ?_; rintro e w5 ⟨rfl, s', hA5, o5⟩
            have hB5 := B2.out.two o5 (by omega) (by omega) (by omega) (by omega)
            have hW5 : Below w.heap.size w w5 := W2.out.trans (o5.below (by omega) (by omega) (by have := W2.out.size; exact this))
            go_wp2_with fail
            go_roundw
            case rel => exact ⟨k + 1, m + 1, q, s', t, by omega, by go_num, by go_num, by omega, by go_num, by omega, hA5, hB5, hW5⟩
            case measure => simp [intOf]; omega
          · have ht : ((m : Int) + 1).tmod 3 = 1 := by rw [Int.tmod_eq_emod_of_nonneg (by omega)]; omega
            clear hr
            go_wp2_with fail
            refine (step_walk _ _ t kk nn pp xx _ (by omega) B2.out).mono ?_; rintro e w5 ⟨rfl, t', hB5, o5⟩
            have hA5 := A2.out.two o5 (by omega) (by omega) (by omega) (by omega)
            have hW5 : Below w.heap.size w w5 := W2.out.trans (o5.below (by omega) (by omega) (by have := W2.out.size; exact this))
            go_wp2_with fail
            go_roundw
            case rel => exact ⟨k + 1, m + 1, q, s, t', by omega, by go_num, by go_num, by omega, by go_num, by omega, hA5, hB5, hW5⟩
            case measure => simp [intOf]; omega
          · have ht : ((m : Int) + 1).tmod 3 = 2 := by rw [Int.tmod_eq_emod_of_nonneg (by omega)]; omega
            clear hr
            go_wp2_with fail
            refine (nil_walk kk nn pp xx _).mono ?_; rintro e w5 ⟨rfl, o5⟩
            have hA5 := A2.out.stay o5
            have hB5 := B2.out.stay o5
            have hW5 : Below w.heap.size w w5 := W2.out.trans (o5.mono W2.out.size)
            go_wp2_with fail
            go_roundw
            case rel => exact ⟨k + 1, m + 1, q, s, t, by omega, by go_num, by go_num, by omega, by go_num, by omega, hA5, hB5, hW5⟩
            case measure => simp [intOf]; omega
        · by_cases d2 : 6 < kk
          · have d4 : ¬ kk = 4 := by omega
            have hr3 : (m + 1) % 3 = 0 ∨ (m + 1) % 3 = 1 ∨ (m + 1) % 3 = 2 := by omega
            rcases hr3 with hr | hr | hr
            · have ht : ((m : Int) + 1).tmod 3 = 0 := by rw [Int.tmod_eq_emod_of_nonneg (by omega)]; omega
              clear hr
              go_wp2_with fail
              refine (step_walk _ _ s kk nn pp xx _ (by omega) A2.out).mono ?_; rintro e w5 ⟨rfl, s', hA5, o5⟩
              have hB5 := B2.out.two o5 (by omega) (by omega) (by omega) (by omega)
              have hW5 : Below w.heap.size w w5 := W2.out.trans (o5.below (by omega) (by omega) (by have := W2.out.size; exact this))
              go_wp2_with fail
              go_roundw
              case rel => exact ⟨k + 1, m + 1, q, s', t, by omega, by go_num, by go_num, by omega, by go_num, by omega, hA5, hB5, hW5⟩
              case measure => simp [intOf]; omega
            · have ht : ((m : Int) + 1).tmod 3 = 1 := by rw [Int.tmod_eq_emod_of_nonneg (by omega)]; omega
              clear hr
              go_wp2_with fail
              refine (step_walk _ _ t kk nn pp xx _ (by omega) B2.out).mono ?_; rintro e w5 ⟨rfl, t', hB5, o5⟩
              have hA5 := A2.out.two o5 (by omega) (by omega) (by omega) (by omega)
              have hW5 : Below w.heap.size w w5 := W2.out.trans (o5.below (by omega) (by omega) (by have := W2.out.size; exact this))
              go_wp2_with fail
              go_roundw
              case rel => exact ⟨k + 1, m + 1, q, s, t', by omega, by go_num, by go_num, by omega, by go_num, by omega, hA5, hB5, hW5⟩
              case measure => simp [intOf]; omega
            · have ht : ((m : Int) + 1).tmod 3 = 2 := by rw [Int.tmod_eq_emod_of_nonneg (by omega)]; omega
              clear hr
              go_wp2_with fail
              refine (nil_walk kk nn pp xx _).mono ?_; rintro e w5 ⟨rfl, o5⟩
              have hA5 := A2.out.stay o5
              have hB5 := B2.out.stay o5
              have hW5 : Below w.heap.size w w5 := W2.out.trans (o5.mono W2.out.size)
              go_wp2_with fail
              go_roundw
              case rel => exact ⟨k + 1, m + 1, q, s, t, by omega, by go_num, by go_num, by omega, by go_num, by omega, hA5, hB5, hW5⟩
              case measure => simp [intOf]; omega
          · by_cases d4 : kk = 4
            · subst d4
              by_cases d5 : 0 < nn
              · by_cases d6 : nn ≤ 16384
                · have hq1 : wrap64 (q + nn) = q + nn := by unfold wrap64; omega
                  by_cases d7 : 1048576 < q + nn
                  · go_wp2_with fail
                    refine (works_walk _).mono ?_; rintro e w5 ⟨rfl, o5⟩
                    go_wp2_with fail
                    go_ret
                    exact ⟨rfl, W2.out.trans (o5.mono W2.out.size)⟩
                  · skip
                    have hr3 : (m) % 3 = 0 ∨ (m) % 3 = 1 ∨ (m) % 3 = 2 := by omega
                    rcases hr3 with hr | hr | hr
                    · have ht : (m : Int).tmod 3 = 0 := by rw [Int.tmod_eq_emod_of_nonneg (by omega)]; omega
                      clear hr
                      go_wp2_with fail
                      refine (step_walk _ _ s 4 nn pp xx _ (by omega) A2.out).mono ?_; rintro e w5 ⟨rfl, s', hA5, o5⟩
                      have hB5 := B2.out.two o5 (by omega) (by omega) (by omega) (by omega)
                      have hW5 : Below w.heap.size w w5 := W2.out.trans (o5.below (by omega) (by omega) (by have := W2.out.size; exact this))
                      go_wp2_with fail
                      go_roundw
                      case rel => exact ⟨k + 1, m, (q + nn), s', t, by omega, by go_num, by go_num, by omega, by go_num, by omega, hA5, hB5, hW5⟩
                      case measure => simp [intOf]; omega
                    · have ht : (m : Int).tmod 3 = 1 := by rw [Int.tmod_eq_emod_of_nonneg (by omega)]; omega
                      clear hr
                      go_wp2_with fail
                      refine (step_walk _ _ t 4 nn pp xx _ (by omega) B2.out).mono ?_; rintro e w5 ⟨rfl, t', hB5, o5⟩
                      have hA5 := A2.out.two o5 (by omega) (by omega) (by omega) (by omega)
                      have hW5 : Below w.heap.size w w5 := W2.out.trans (o5.below (by omega) (by omega) (by have := W2.out.size; exact this))
                      go_wp2_with fail
                      go_roundw
                      case rel => exact ⟨k + 1, m, (q + nn), s, t', by omega, by go_num, by go_num, by omega, by go_num, by omega, hA5, hB5, hW5⟩
                      case measure => simp [intOf]; omega
                    · have ht : (m : Int).tmod 3 = 2 := by rw [Int.tmod_eq_emod_of_nonneg (by omega)]; omega
                      clear hr
                      go_wp2_with fail
                      refine (nil_walk 4 nn pp xx _).mono ?_; rintro e w5 ⟨rfl, o5⟩
                      have hA5 := A2.out.stay o5
                      have hB5 := B2.out.stay o5
                      have hW5 : Below w.heap.size w w5 := W2.out.trans (o5.mono W2.out.size)
                      go_wp2_with fail
                      go_roundw
                      case rel => exact ⟨k + 1, m, (q + nn), s, t, by omega, by go_num, by go_num, by omega, by go_num, by omega, hA5, hB5, hW5⟩
                      case measure => simp [intOf]; omega
                · skip
                  have hr3 : (m) % 3 = 0 ∨ (m) % 3 = 1 ∨ (m) % 3 = 2 := by omega
                  rcases hr3 with hr | hr | hr
                  · have ht : (m : Int).tmod 3 = 0 := by rw [Int.tmod_eq_emod_of_nonneg (by omega)]; omega
                    clear hr
                    go_wp2_with fail
                    refine (step_walk _ _ s 4 nn pp xx _ (by omega) A2.out).mono ?_; rintro e w5 ⟨rfl, s', hA5, o5⟩
                    have hB5 := B2.out.two o5 (by omega) (by omega) (by omega) (by omega)
                    have hW5 : Below w.heap.size w w5 := W2.out.trans (o5.below (by omega) (by omega) (by have := W2.out.size; exact this))
                    go_wp2_with fail
                    go_roundw
                    case rel => exact ⟨k + 1, m, q, s', t, by omega, by go_num, by go_num, by omega, by go_num, by omega, hA5, hB5, hW5⟩
                    case measure => simp [intOf]; omega
                  · have ht : (m : Int).tmod 3 = 1 := by rw [Int.tmod_eq_emod_of_nonneg (by omega)]; omega
                    clear hr
                    go_wp2_with fail
                    refine (step_walk _ _ t 4 nn pp xx _ (by omega) B2.out).mono ?_; rintro e w5 ⟨rfl, t', hB5, o5⟩
                    have hA5 := A2.out.two o5 (by omega) (by omega) (by omega) (by omega)
                    have hW5 : Below w.heap.size w w5 := W2.out.trans (o5.below (by omega) (by omega) (by have := W2.out.size; exact this))
                    go_wp2_with fail
                    go_roundw
                    case rel => exact ⟨k + 1, m, q, s, t', by omega, by go_num, by go_num, by omega, by go_num, by omega, hA5, hB5, hW5⟩
                    case measure => simp [intOf]; omega
                  · have ht : (m : Int).tmod 3 = 2 := by rw [Int.tmod_eq_emod_of_nonneg (by omega)]; omega
                    clear hr
                    go_wp2_with fail
                    refine (nil_walk 4 nn pp xx _).mono ?_; rintro e w5 ⟨rfl, o5⟩
                    have hA5 := A2.out.stay o5
                    have hB5 := B2.out.stay o5
                    have hW5 : Below w.heap.size w w5 := W2.out.trans (o5.mono W2.out.size)
                    go_wp2_with fail
                    go_roundw
                    case rel => exact ⟨k + 1, m, q, s, t, by omega, by go_num, by go_num, by omega, by go_num, by omega, hA5, hB5, hW5⟩
                    case measure => simp [intOf]; omega
              · skip
                have hr3 : (m) % 3 = 0 ∨ (m) % 3 = 1 ∨ (m) % 3 = 2 := by omega
                rcases hr3 with hr | hr | hr
                · have ht : (m : Int).tmod 3 = 0 := by rw [Int.tmod_eq_emod_of_nonneg (by omega)]; omega
                  clear hr
                  go_wp2_with fail
                  refine (step_walk _ _ s 4 nn pp xx _ (by omega) A2.out).mono ?_; rintro e w5 ⟨rfl, s', hA5, o5⟩
                  have hB5 := B2.out.two o5 (by omega) (by omega) (by omega) (by omega)
                  have hW5 : Below w.heap.size w w5 := W2.out.trans (o5.below (by omega) (by omega) (by have := W2.out.size; exact this))
                  go_wp2_with fail
                  go_roundw
                  case rel => exact ⟨k + 1, m, q, s', t, by omega, by go_num, by go_num, by omega, by go_num, by omega, hA5, hB5, hW5⟩
                  case measure => simp [intOf]; omega
                · have ht : (m : Int).tmod 3 = 1 := by rw [Int.tmod_eq_emod_of_nonneg (by omega)]; omega
                  clear hr
                  go_wp2_with fail
                  refine (step_walk _ _ t 4 nn pp xx _ (by omega) B2.out).mono ?_; rintro e w5 ⟨rfl, t', hB5, o5⟩
                  have hA5 := A2.out.two o5 (by omega) (by omega) (by omega) (by omega)
                  have hW5 : Below w.heap.size w w5 := W2.out.trans (o5.below (by omega) (by omega) (by have := W2.out.size; exact this))
                  go_wp2_with fail
                  go_roundw
                  case rel => exact ⟨k + 1, m, q, s, t', by omega, by go_num, by go_num, by omega, by go_num, by omega, hA5, hB5, hW5⟩
                  case measure => simp [intOf]; omega
                · have ht : (m : Int).tmod 3 = 2 := by rw [Int.tmod_eq_emod_of_nonneg (by omega)]; omega
                  clear hr
                  go_wp2_with fail
                  refine (nil_walk 4 nn pp xx _).mono ?_; rintro e w5 ⟨rfl, o5⟩
                  have hA5 := A2.out.stay o5
                  have hB5 := B2.out.stay o5
                  have hW5 : Below w.heap.size w w5 := W2.out.trans (o5.mono W2.out.size)
                  go_wp2_with fail
                  go_roundw
                  case rel => exact ⟨k + 1, m, q, s, t, by omega, by go_num, by go_num, by omega, by go_num, by omega, hA5, hB5, hW5⟩
                  case measure => simp [intOf]; omega
            · skip
              have hr3 : (m) % 3 = 0 ∨ (m) % 3 = 1 ∨ (m) % 3 = 2 := by omega
              rcases hr3 with hr | hr | hr
              · have ht : (m : Int).tmod 3 = 0 := by rw [Int.tmod_eq_emod_of_nonneg (by omega)]; omega
                clear hr
                go_wp2_with fail
                refine (step_walk _ _ s kk nn pp xx _ (by omega) A2.out).mono ?_; rintro e w5 ⟨rfl, s', hA5, o5⟩
                have hB5 := B2.out.two o5 (by omega) (by omega) (by omega) (by omega)
                have hW5 : Below w.heap.size w w5 := W2.out.trans (o5.below (by omega) (by omega) (by have := W2.out.size; exact this))
                go_wp2_with fail
                go_roundw
                case rel => exact ⟨k + 1, m, q, s', t, by omega, by go_num, by go_num, by omega, by go_num, by omega, hA5, hB5, hW5⟩
                case measure => simp [intOf]; omega
              · have ht : (m : Int).tmod 3 = 1 := by rw [Int.tmod_eq_emod_of_nonneg (by omega)]; omega
                clear hr
                go_wp2_with fail
                refine (step_walk _ _ t kk nn pp xx _ (by omega) B2.out).mono ?_; rintro e w5 ⟨rfl, t', hB5, o5⟩
                have hA5 := A2.out.two o5 (by omega) (by omega) (by omega) (by omega)
                have hW5 : Below w.heap.size w w5 := W2.out.trans (o5.below (by omega) (by omega) (by have := W2.out.size; exact this))
                go_wp2_with fail
                go_roundw
                case rel => exact ⟨k + 1, m, q, s, t', by omega, by go_num, by go_num, by omega, by go_num, by omega, hA5, hB5, hW5⟩
                case measure => simp [intOf]; omega
              · have ht : (m : Int).tmod 3 = 2 := by rw [Int.tmod_eq_emod_of_nonneg (by omega)]; omega
                clear hr
                go_wp2_with fail
                refine (nil_walk kk nn pp xx _).mono ?_; rintro e w5 ⟨rfl, o5⟩
                have hA5 := A2.out.stay o5
                have hB5 := B2.out.stay o5
                have hW5 : Below w.heap.size w w5 := W2.out.trans (o5.mono W2.out.size)
                go_wp2_with fail
                go_roundw
                case rel => exact ⟨k + 1, m, q, s, t, by omega, by go_num, by go_num, by omega, by go_num, by omega, hA5, hB5, hW5⟩
                case measure => simp [intOf]; omega
    · obtain rfl : k = len := by omega
      go_wp2_with fail
      refine (state_walk _ _ _ A.out.n).mono ?_; rintro e w5 ⟨rfl, rfl⟩
      go_wp2_with fail
      refine (rstate_walk _ _ _ A.out.r).mono ?_; rintro e w5 ⟨rfl, rfl⟩
      go_wp2_with fail
      refine (state_walk _ _ _ B.out.n).mono ?_; rintro e w5 ⟨rfl, rfl⟩
      go_wp2_with fail
      refine (rstate_walk _ _ _ B.out.r).mono ?_; rintro e w5 ⟨rfl, rfl⟩
      go_wp2_with fail
      refine (works_walk _).mono ?_; rintro e w5 ⟨rfl, o5⟩
      go_wp2_with fail
      go_ret
      exact ⟨rfl, WW.out.trans (o5.mono WW.out.size)⟩
theorem plays_args (W : World) (base : Nat) (args : Array Value) (hsz : args.size = Try.f4.params.size) (hval : ∀ (j : Nat) t v, Try.f4.params[j]? = some t → args[j]? = some v → Value.okWide Try.prog W .any base t v)
    (hrd : ∀ (j : Nat) t v, Try.f4.params[j]? = some t → args[j]? = some v → Rd Try.prog W t v.cells.toList) :
    Calls Try.prog 4 args W (fun e w' => e = .returned (.bool true) ∧ Below W.heap.size W w') := by
  rw [Try.params4] at hval hsz hrd
  obtain ⟨l⟩ := args
  match l, hsz with
  | [v0, v1, v2], _ =>
    obtain ⟨x0, rfl, lo0, hi0⟩ := ok_int (t := 22) Try.underlying22 (hval 0 22 v0 rfl rfl)
    obtain ⟨x1, rfl, lo1, hi1⟩ := ok_int (t := 22) Try.underlying22 (hval 1 22 v1 rfl rfl)
    obtain ⟨sd, rfl⟩ := Int.eq_ofNat_of_zero_le (show (0 : Int) ≤ x0 from lo0)
    obtain ⟨oth, rfl⟩ := Int.eq_ofNat_of_zero_le (show (0 : Int) ≤ x1 from lo1)
    have hsd : sd < 2 ^ 64 := by
      have h : (sd : Int) ≤ 18446744073709551615 := hi0
      omega
    have hoth : oth < 2 ^ 64 := by
      have h : (oth : Int) ≤ 18446744073709551615 := hi1
      omega
    obtain ⟨ao, len, cap, hv, h1, h2, h3⟩ := rd_row (P := Try.prog) (t := 31) (e := 35) (n := 4) Try.underlying31 (by kernel_rfl) (by decide) (hrd 2 31 v2 rfl rfl)
    obtain ⟨a1, n1, c1, rfl⟩ := okWide_slice Try.underlying31 (hval 2 31 v2 rfl rfl)
    obtain ⟨rfl, rfl, rfl⟩ : a1 = ao ∧ n1 = len ∧ c1 = cap := by simpa [Value.cells] using hv
    refine plays_law sd oth a1 n1 c1 W hsd hoth (by unfold maxLen at h2; omega) (h3.imp_right ?_)
    rintro ⟨b0, off, hb, rfl, hc⟩
    refine ⟨b0, off, hb, rfl, fun i hi => ?_⟩
    obtain ⟨cs, hl, hcell, hr⟩ := hc i hi
    obtain ⟨_, hf⟩ := rd_struct Try.underlying35 hr
    match cs, hl with
    | [y0, y1, y2, y3], _ =>
      have e3 : Try.prog.cellsOf 3 = 1 := by kernel_rfl
      have e22 : Try.prog.cellsOf 22 = 1 := by kernel_rfl
      have e28 : Try.prog.cellsOf 28 = 1 := by kernel_rfl
      obtain ⟨k, hk, _⟩ := rd_int Try.underlying3 (by simpa using hf 0 _ rfl)
      obtain ⟨n, hn, _⟩ := rd_int Try.underlying3 (by simpa using hf 1 _ rfl)
      obtain ⟨p, hp, plo, phi⟩ := rd_int Try.underlying22 (by simpa using hf 2 _ rfl)
      obtain ⟨x, hx, _⟩ := rd_float Try.underlying28 (by simpa using hf 3 _ rfl)
      obtain ⟨p, rfl⟩ := Int.eq_ofNat_of_zero_le (show (0 : Int) ≤ p from plo)
      obtain rfl : y0 = .int .i64 k := by simpa [e3] using hk
      obtain rfl : y1 = .int .i64 n := by simpa [e3] using hn
      obtain rfl : y2 = .int .u64 p := by simpa [e22] using hp
      obtain rfl : y3 = .float .f64 x := by simpa [e28] using hx
      exact ⟨k, n, p, x, by have := hcell 0 (by decide); rwa [← Nat.add_assoc] at this, by have := hcell 1 (by decide); rwa [← Nat.add_assoc] at this, by have := hcell 2 (by decide); rwa [← Nat.add_assoc] at this, by have := hcell 3 (by decide); rwa [← Nat.add_assoc] at this⟩

set_option maxRecDepth 100000 in
theorem plays_lifted (os : Os) (started : os.Started) (H : Type) (enc : TypeId × Value → H) :
    ReturnsInHanded {} Try.checked os 4 .any (Rows.noisePlaysSpec.pre6 enc Try.prog Try.f4 Rows.noisePlaysRow.domain false) (Rows.noisePlaysSpec.post enc Try.prog Try.f4 false true false false) :=
  law_lifted_s (C := Try.checked) Try.own started (by kernel_rfl) Try.func4
    (ChangeSpec.witness6 (enc := enc) (C := Try.checked) false ⟨#[], #[.int .u64 0, .int .u64 0, .slice none 0 0], []⟩ 8 (by kernel_rfl) (by kernel_rfl) (by kernel_rfl) (by kernel_rfl))
    Try.laidOut (fun t ht => by have ht2 : t ∈ Try.f4.params.toList := ht; rw [Try.params4] at ht2; simp only [List.mem_cons, List.not_mem_nil, or_false] at ht2; rcases ht2 with rfl | rfl | rfl <;> exact ⟨by kernel_rfl, of_decide_eq_true (by kernel_rfl)⟩)
    rfl Try.underlying4 rfl (fun ds hd => by have hd2 : ds.length = Try.f4.params.size := hd; rw [Try.params4] at hd2; match ds, hd2 with | [d1, d2, d3], _ => exact ⟨rfl, rfl, rfl⟩) plays_args

theorem plays_holds : Rows.NoisePlaysSaid :=
  OpenClaim.holds_of_wide 4 Try.f4 rfl rfl rfl rfl rfl rfl rfl ⟨rfl, rfl, rfl, rfl, rfl⟩ rfl rfl rfl rfl rfl (by kernel_rfl) Try.func4 (by kernel_rfl)
    (of_decide_eq_true (by kernel_rfl)) (by unfold Func.isWrapper; first | (rw [if_pos (by decide +kernel)]; kernel_rfl) | (rw [if_neg (by decide +kernel)]; exact ⟨rfl, rfl⟩))
    (fun os started H enc _ => plays_lifted os started H enc)
#print axioms plays_holds
end Go.Proofs.Ythdpkmdkoldneaa
