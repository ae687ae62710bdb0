import Derived.Test.YtdngkeefbpffcaaPsA
set_option autoImplicit false
set_option linter.unusedVariables false
namespace Pl
open Lk
/-- two neighbouring parts change places -/
def rotF (D : Nat → Nat) (a m b k : Nat) : Nat := if a ≤ k ∧ k < b then (if k < a + (b - m) then D (k + (m - a)) else D (k - (b - m))) else D k
def gd (D : List Nat) (k : Nat) : Nat := D.getD k 0
theorem gd_sw (D : List Nat) (a b n : Nat) (hab : a + n ≤ b) (hb : b + n ≤ D.length) (k : Nat) : gd (swR D a b n) k = if a ≤ k ∧ k < a + n then gd D (k - a + b) else if b ≤ k ∧ k < b + n then gd D (k - b + a) else gd D k := swR_get D a b n hab hb n (Nat.le_refl _) k
theorem rot_left {D : List Nat} {m i j : Nat} (hi : i ≤ m) (hji : j < i) (hD : m + j ≤ D.length) (k : Nat) : rotF (gd (swR D (m - i) m j)) (m - (i - j)) m (m + j) k = rotF (gd D) (m - i) m (m + j) k := by
  have S := gd_sw D (m - i) m j (by omega) hD
  unfold rotF
  by_cases h1 : m - i ≤ k ∧ k < m + j
  · rw [if_pos h1]
    by_cases h2 : k < m - i + j
    · rw [if_neg (by omega), if_pos (by omega), S k, if_pos (by omega)]
      congr 1; omega
    · rw [if_pos (by omega), if_neg (show ¬ k < m - i + (m + j - m) by omega)]
      by_cases h3 : k < m - (i - j) + (m + j - m)
      · rw [if_pos h3, S, if_neg (by omega), if_pos (by omega)]
        congr 1; omega
      · rw [if_neg h3, S, if_neg (by omega), if_neg (by omega)]
  · rw [if_neg h1, if_neg (by omega), S, if_neg (by omega), if_neg (by omega)]
theorem rot_right {D : List Nat} {m i j : Nat} (hi : i ≤ m) (hij : i < j) (hD : m + j ≤ D.length) (k : Nat) : rotF (gd (swR D (m - i) (m + j - i) i)) (m - i) m (m + (j - i)) k = rotF (gd D) (m - i) m (m + j) k := by
  have S := gd_sw D (m - i) (m + j - i) i (by omega) (by omega)
  unfold rotF
  by_cases h1 : m - i ≤ k ∧ k < m + j
  · rw [if_pos h1]
    by_cases h2 : k < m + (j - i)
    · rw [if_pos (show m - i ≤ k ∧ k < m + (j - i) by omega)]
      by_cases h3 : k < m - i + (m + (j - i) - m)
      · rw [if_pos h3, if_pos (by omega), S, if_neg (by omega), if_neg (by omega)]
        
      · rw [if_neg h3, S]
        by_cases h4 : k < m - i + (m + j - m)
        · rw [if_pos h4, if_pos (by omega)]
          congr 1; omega
        · exfalso; omega
    · rw [if_neg (by omega), if_neg (by omega), S, if_neg (by omega), if_pos (by omega)]
      congr 1; omega
  · rw [if_neg h1, if_neg (by omega), S, if_neg (by omega), if_neg (by omega)]
theorem rot_same {D : List Nat} {m i : Nat} (hi : i ≤ m) (hD : m + i ≤ D.length) (k : Nat) : gd (swR D (m - i) m i) k = rotF (gd D) (m - i) m (m + i) k := by
  rw [gd_sw D (m - i) m i (by omega) hD]
  unfold rotF
  by_cases h1 : m - i ≤ k ∧ k < m + i
  · rw [if_pos h1]
    by_cases h2 : k < m - i + i
    · rw [if_pos (by omega), if_pos (by omega)]
      congr 1; omega
    · rw [if_neg (by omega), if_pos (by omega), if_neg (by omega)]
      congr 1; omega
  · rw [if_neg h1, if_neg (by omega), if_neg (by omega)]
end Pl
namespace Go.Proofs.Ytdngkeefbpffcaa
open Go.RowKit Lk Pl
set_option maxRecDepth 100000 in
set_option maxHeartbeats 4000000 in
theorem rot_walk (W : World) (kf kl g n cap N co : Nat) (a : Option Addr) (l : List Pt) (D : List Nat) (p m q : Nat) (w : World) (h : So W kf kl g n cap N a l D w) (hN : N ≤ co) (hc : co ≤ 9223372036854775807) (hpm : p < m) (hmq : m < q) (hq : q ≤ N) :
    Calls Try.prog 80 #[.slice (some ⟨g, 0, none⟩) N co, .int .i64 p, .int .i64 m, .int .i64 q, .func (.func 64) #[] #[.pointer (some ⟨kf, 0, none⟩), .pointer (some ⟨kl, 0, none⟩)]] w
      (fun e w' => e = .returned (.tuple #[]) ∧ ∃ E, So W kf kl g n cap N a l E w' ∧ ∀ k, gd E k = rotF (gd D) p m q k) := by
  have S0 := Lib.hid h
  have HP := Lib.hid hpm
  clear h
  go_enter Try.func80, Try.ntmps80
  go_wp2_with fail
  go_loopw [10, 11] (fun vi vj wr => ∃ (i j : Nat) (E : List Nat), vi = .int .i64 i ∧ vj = .int .i64 j ∧ 0 < i ∧ 0 < j ∧ i ≤ m ∧ m + j ≤ N ∧ So W kf kl g n cap N a l E wr ∧ ∀ k, rotF (gd E) (m - i) m (m + j) k = rotF (gd D) p m q k) (fun vi vj _ => (intOf vi).toNat + (intOf vj).toNat)
  case atStart => exact ⟨m - p, q - m, D, by congr 1; omega, by congr 1; omega, by omega, by omega, by omega, by omega, S0.out, fun k => by rw [show m - (m - p) = p by omega, show m + (q - m) = q by omega]⟩
  case round =>
    clear S0
    obtain ⟨i, j, E, rfl, rfl, hi, hj, him, hmj, hs, hr⟩ := hrel
    have SE := Lib.hid hs
    have HR := Lib.hid hr
    have lE := Lib.hid hs.len
    clear hs hr
    rcases Nat.lt_trichotomy i j with hlt | heq | hgt
    · have ne : ((i : Int) != (j : Int)) = true := by rw [bne_iff_ne]; omega
      have ng : ¬ (j : Int) < (i : Int) := by omega
      have e1 : (m : Int) - (i : Int) = ((m - i : Nat) : Int) := by omega
      have e2 : (m : Int) + (j : Int) - (i : Int) = ((m + j - i : Nat) : Int) := by omega
      have e3 : (j : Int) - (i : Int) = ((j - i : Nat) : Int) := by omega
      have E1 := Lib.hid e1
      have E2 := Lib.hid e2
      have E3 := Lib.hid e3
      have I := Lib.hid (swr_walk W kf kl g n cap N co a l E (m - i) (m + j - i) i wr SE.out hN hc (by omega) (by omega))
      have NR := Lib.hid (fun k => rot_right (D := E) him hlt (by rw [lE.out]; exact hmj) k)
      clear e1 e2 e3
      go_wp2_with fail
      rw [E1.out, E2.out]
      refine I.out.mono ?_
      rintro e w1 ⟨rfl, s1⟩
      have S1 := Lib.hid s1
      clear s1 I
      go_wp2_with fail
      go_roundw
      case rel => exact ⟨i, j - i, _, rfl, by rw [E3.out], hi, by omega, him, by omega, S1.out, fun k => (NR.out k).trans (HR.out k)⟩
      case measure => simp only [intOf]; omega
    · subst heq
      have ne : ((i : Int) != (i : Int)) = false := by simp
      have e1 : (m : Int) - (i : Int) = ((m - i : Nat) : Int) := by omega
      have E1 := Lib.hid e1
      have I := Lib.hid (swr_walk W kf kl g n cap N co a l E (m - i) m i wr SE.out hN hc (by omega) (by omega))
      have NR := Lib.hid (fun k => rot_same (D := E) him (by rw [lE.out]; exact hmj) k)
      clear e1
      go_wp2_with fail
      rw [E1.out]
      refine I.out.mono ?_
      rintro e w1 ⟨rfl, s1⟩
      have S1 := Lib.hid s1
      clear s1 I
      go_wp2_with fail
      go_end0
      exact ⟨rfl, _, S1.out, fun k => (NR.out k).trans (HR.out k)⟩
    · have ne : ((i : Int) != (j : Int)) = true := by rw [bne_iff_ne]; omega
      have ng : (j : Int) < (i : Int) := by omega
      have e1 : (m : Int) - (i : Int) = ((m - i : Nat) : Int) := by omega
      have e3 : (i : Int) - (j : Int) = ((i - j : Nat) : Int) := by omega
      have E1 := Lib.hid e1
      have E3 := Lib.hid e3
      have I := Lib.hid (swr_walk W kf kl g n cap N co a l E (m - i) m j wr SE.out hN hc (by omega) (by omega))
      have NR := Lib.hid (fun k => rot_left (D := E) him hgt (by rw [lE.out]; exact hmj) k)
      clear e1 e3
      go_wp2_with fail
      rw [E1.out]
      refine I.out.mono ?_
      rintro e w1 ⟨rfl, s1⟩
      have S1 := Lib.hid s1
      clear s1 I
      go_wp2_with fail
      go_roundw
      case rel => exact ⟨i - j, j, _, by rw [E3.out], rfl, by omega, hj, by omega, hmj, S1.out, fun k => (NR.out k).trans (HR.out k)⟩
      case measure => simp only [intOf]; omega
end Go.Proofs.Ytdngkeefbpffcaa
