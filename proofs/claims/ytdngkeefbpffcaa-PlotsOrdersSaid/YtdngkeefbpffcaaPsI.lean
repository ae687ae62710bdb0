import Derived.Test.YtdngkeefbpffcaaPsG
import Derived.Test.YtdngkeefbpffcaaPsH
set_option autoImplicit false
set_option linter.unusedVariables false
namespace Pl
open Lk
section
variable {lt : Nat → Nat → Bool}
theorem pl_blk (h : WO lt) {N i : Nat} {E : List Nat} (hl : E.length = N) (b : Bl lt N E 1 20 (i * 20)) (hi : i * 20 + 20 ≤ N) : Bl lt N (insF lt (i * 20) (i * 20 + 20) E) 1 20 ((i + 1) * 20) := by
  have r := bl_rise b
  have p := ins_post h (D := E) (a := i * 20) 19 (by omega) (fun x y x1 x2 x3 => by rw [r x x1 (by omega), r y (by omega) (by omega)]; exact x2)
  have m1 : min (i * 20 + 20) N = i * 20 + 20 := by omega
  refine bl_step b (by rw [m1]; exact p) (by rw [m1]; exact fun k k1 k2 => by rw [r k k1 (by omega)]; omega)
theorem pl_last (h : WO lt) {N i : Nat} {E : List Nat} (hl : E.length = N) (b : Bl lt N E 1 20 (i * 20)) (h1 : i * 20 ≤ N) (h2 : N < i * 20 + 20) : Bl lt N (insF lt (i * 20) N E) 20 (2 * 20) 0 := by
  by_cases e : i * 20 = N
  · rw [insF_small lt E (by omega)]
    exact bl_next b (by omega)
  · have r := bl_rise b
    have p := ins_post h (D := E) (a := i * 20) (N - i * 20 - 1) (by omega) (fun x y x1 x2 x3 => by rw [r x x1 (by omega), r y (by omega) (by omega)]; exact x2)
    rw [show i * 20 + 1 + (N - i * 20 - 1) = N by omega] at p
    have m1 : min (i * 20 + 20) N = N := by omega
    exact bl_next (bl_step b (by rw [m1]; exact p) (by rw [m1]; exact fun k k1 k2 => by rw [r k k1 (by omega)]; omega)) (by omega)
theorem pl_sym {N bs i : Nat} {E E' : List Nat} (b : Bl lt N E bs (2 * bs) (i * (2 * bs))) (hm : i * (2 * bs) + bs < N) (p : Post lt E E' (i * (2 * bs)) (min (i * (2 * bs) + 2 * bs) N)) : Bl lt N E' bs (2 * bs) ((i + 1) * (2 * bs)) := bl_step b p (bl_pre b hm).2
end
end Pl
namespace Go.Proofs.Ytdngkeefbpffcaa
open Go.RowKit Lk Pl
set_option maxRecDepth 100000 in
set_option maxHeartbeats 4000000 in
theorem stable_gen (W : World) (kf kl g n cap N co : Nat) (a : Option Addr) (l : List Pt) (w : World) (h : So W kf kl g n cap N a l (List.range N) w) (hN : N ≤ co) (hc : co ≤ 1073741824) :
    Calls Try.prog 74 #[.slice (some ⟨g, 0, none⟩) N co, .int .i64 N, .func (.func 64) #[] #[.pointer (some ⟨kf, 0, none⟩), .pointer (some ⟨kl, 0, none⟩)]] w
      (fun e w' => e = .returned (.tuple #[]) ∧ ∃ E, So W kf kl g n cap N a l E w' ∧ Srt (ltI l) (gd E) 0 N) := by
  have S0 := Lib.hid h
  have WF := Lib.hid (ltI_wo l)
  have IW := Lib.hid (fun (D : List Nat) (p q : Nat) (x : World) (hx : So W kf kl g n cap N a l D x) (hpq : q ≤ N) (hp : p ≤ N) => insert_walk W kf kl g n cap N co a l D p q x hx hN (by omega) hpq (by omega))
  have SW := Lib.hid (fun (D : List Nat) (p m q : Nat) (x : World) (hx : So W kf kl g n cap N a l D x) (h1 : p < m) (h2 : m < q) (h3 : q ≤ N) (hp : Pre (ltI l) D p m q) => sym_walk W kf kl g n cap N co a l hN (by omega) (q - p) D p m q x (Nat.le_refl _) hx h1 h2 h3 hp)
  clear h
  go_enter Try.func74, Try.ntmps74
  go_wp2_with fail
  go_loopw [7, 8] (fun v7 v8 wr => ∃ (i A B : Nat) (E : List Nat), v7 = .int .i64 A ∧ v8 = .int .i64 B ∧ B = A + 20 ∧ A ≤ N ∧ A = i * 20 ∧ So W kf kl g n cap N a l E wr ∧ Bl (ltI l) N E 1 20 (i * 20)) (fun v7 _ _ => N - (intOf v7).toNat)
  case atStart => exact ⟨0, 0, 20, List.range N, rfl, rfl, rfl, by omega, by omega, S0.out, by rw [Nat.zero_mul]; exact bl_start fun k hk => by unfold gd; rw [List.getD_eq_getElem?_getD, List.getElem?_range hk]; rfl⟩
  case round =>
    obtain ⟨i, A, B, E, rfl, rfl, hB, hA, hi, hs, hb⟩ := hrel
    have SI := Lib.hid hs
    have HB := Lib.hid hb
    have HI := Lib.hid hi
    have lE := Lib.hid hs.len
    clear hs hb hi S0
    by_cases hlt : B ≤ N
    · have l2 : (B : Int) ≤ (N : Int) := by omega
      have BB := Lib.hid hB
      have A2 : A < B := by omega
      clear hB
      go_wp2_with fail
      refine (IW.out E A B _ SI.out (by omega) (by omega)).mono ?_
      rintro e w1 ⟨rfl, s1⟩
      have S1 := Lib.hid s1
      clear s1
      go_wp2_with fail
      go_roundw
      case rel => exact ⟨i + 1, B, B + 20, _, rfl, by go_num, rfl, hlt, by have := BB.out; have := HI.out; omega, S1.out, by
        have := pl_blk WF.out lE.out HB.out (by have := BB.out; have := HI.out; omega)
        rw [← HI.out, ← BB.out] at this
        rw [HI.out] at this
        rw [HI.out]
        exact this⟩
      case measure => simp only [intOf]; have := BB.out; omega
    · have l2 : ¬ (B : Int) ≤ (N : Int) := by omega
      have BB := Lib.hid hB
      clear hB
      go_wp2_with fail
      refine (IW.out E A N _ SI.out (Nat.le_refl _) hA).mono ?_
      rintro e w1 ⟨rfl, s1⟩
      have B1 := Lib.hid (show Bl (ltI l) N (insF (ltI l) A N E) 20 (2 * 20) 0 by
        have k1 := BB.out
        have k2 := HI.out
        rw [k2]
        exact pl_last WF.out lE.out HB.out (by omega) (by omega))
      generalize insF (ltI l) A N E = E1 at *
      have S1 := Lib.hid s1
      clear s1 SI HB
      go_wp2_with fail
      go_loopw [6] (fun v6 wr => ∃ (bs : Nat) (E : List Nat), v6 = .int .i64 bs ∧ 0 < bs ∧ bs ≤ 2 * N + 20 ∧ So W kf kl g n cap N a l E wr ∧ Bl (ltI l) N E bs (2 * bs) 0) (fun v6 _ => N - (intOf v6).toNat)
      case atStart => exact ⟨20, E1, rfl, by omega, by omega, S1.out, B1.out⟩
      case round =>
        clear S1 B1 lE HI BB l2 hlt hA
        obtain ⟨bs, E, rfl, b0, b1, hs, hb⟩ := hrel
        have SI := Lib.hid hs
        have HB := Lib.hid hb
        clear hs hb
        by_cases hlt : bs < N
        · have l3 : (bs : Int) < (N : Int) := by omega
          go_wp2_with fail
          go_loopw [7, 8] (fun v7 v8 wr => ∃ (i A B : Nat) (E : List Nat), v7 = .int .i64 A ∧ v8 = .int .i64 B ∧ B = A + 2 * bs ∧ A ≤ N ∧ A = i * (2 * bs) ∧ So W kf kl g n cap N a l E wr ∧ Bl (ltI l) N E bs (2 * bs) (i * (2 * bs))) (fun v7 _ _ => N - (intOf v7).toNat)
          case atStart => exact ⟨0, 0, 2 * bs, E, rfl, by go_num, by omega, by omega, by rw [Nat.zero_mul], SI.out, by rw [Nat.zero_mul]; exact HB.out⟩
          case round =>
            clear SI HB
            obtain ⟨i, A, B, E, rfl, rfl, hB, hA, hi, hs, hb⟩ := hrel
            have SI := Lib.hid hs
            have HB := Lib.hid hb
            have HI := Lib.hid hi
            have BB := Lib.hid hB
            obtain ⟨m, hm⟩ : ∃ m : Nat, m = A + bs := ⟨_, rfl⟩
            have MM := Lib.hid hm
            have EM : Hid ((A : Int) + (bs : Int) = (m : Int)) := Lib.hid (by omega)
            have m1 : A < m := by omega
            have m2 : m < B := by omega
            have z1 : (A : Int) + (bs : Int) < 9223372036854775808 := by omega
            clear hs hb hi hB hm
            by_cases hle : B ≤ N
            · have l4 : (B : Int) ≤ (N : Int) := by omega
              go_wp2_with fail
              rw [EM.out]
              have pr : Pre (ltI l) E A m B := by
                have := (bl_pre HB.out (by rw [← HI.out, ← MM.out]; omega)).1
                rw [← HI.out, ← MM.out, ← BB.out, show min B N = B by omega] at this
                exact this
              refine (SW.out E A m B _ SI.out m1 m2 hle pr).mono ?_
              rintro e w2 ⟨rfl, E2, s2, p2⟩
              have S2 := Lib.hid s2
              have P2 := Lib.hid p2
              clear s2 p2 pr
              go_wp2_with fail
              go_roundw
              case rel => exact ⟨i + 1, B, B + 2 * bs, E2, rfl, by go_num, rfl, hle, by rw [Nat.add_mul, Nat.one_mul, ← HI.out]; exact BB.out, S2.out, pl_sym HB.out (by rw [← HI.out, ← MM.out]; omega) (by rw [← HI.out, ← BB.out, show min B N = B by omega]; exact P2.out)⟩
              case measure => simp only [intOf]; omega
            · have l4 : ¬ (B : Int) ≤ (N : Int) := by omega
              by_cases hmn : m < N
              · have l5 : (A : Int) + (bs : Int) < (N : Int) := by have := MM.out; omega
                go_wp2_with fail
                rw [EM.out]
                have pr : Pre (ltI l) E A m N := by
                  have := (bl_pre HB.out (by rw [← HI.out, ← MM.out]; omega)).1
                  rw [← HI.out, ← MM.out, ← BB.out, show min B N = N by omega] at this
                  exact this
                refine (SW.out E A m N _ SI.out m1 hmn (Nat.le_refl _) pr).mono ?_
                rintro e w2 ⟨rfl, E2, s2, p2⟩
                have S2 := Lib.hid s2
                have P2 := Lib.hid p2
                clear s2 p2 pr
                go_wp2_with fail
                go_roundw
                case rel => exact ⟨2 * bs, E2, by go_num, by omega, by omega, S2.out, bl_next (pl_sym HB.out (by rw [← HI.out, ← MM.out]; omega) (by rw [← HI.out, ← BB.out, show min B N = N by omega]; exact P2.out)) (by rw [Nat.add_mul, Nat.one_mul, ← HI.out, ← BB.out]; omega)⟩
                case measure => simp only [intOf]; omega
              · have l5 : ¬ (A : Int) + (bs : Int) < (N : Int) := by have := MM.out; omega
                go_wp2_with fail
                go_roundw
                case rel => exact ⟨2 * bs, E, by go_num, by omega, by omega, SI.out, bl_next (bl_last HB.out (by rw [← HI.out, ← MM.out]; omega)) (by rw [Nat.add_mul, Nat.one_mul, ← HI.out, ← BB.out]; omega)⟩
                case measure => simp only [intOf]; omega
        · have l3 : ¬ (bs : Int) < (N : Int) := by omega
          go_wp2_with fail
          go_end0
          refine ⟨rfl, E, SI.out, ?_⟩
          by_cases z : N = 0
          · rw [z]; exact Srt.one _ (by omega)
          · exact (bl_end HB.out (by omega) (by omega)).1
end Go.Proofs.Ytdngkeefbpffcaa
