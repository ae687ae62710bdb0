import Derived.Test.YtdngkeefbpffcaaPlF
import Derived.Laws.MakeOwn
set_option autoImplicit false
set_option linter.unusedVariables false
namespace Go.Proofs.Ytdngkeefbpffcaa
open Go.RowKit Lk Pl
set_option maxHeartbeats 1000000 in
theorem stable_walk (W : World) (kf kl g n cap N co : Nat) (a : Option Addr) (l : List Pt) (D : List Nat) (w : World) (h : So W kf kl g n cap N a l D w) (hN : N ≤ co) (hc : co ≤ 9223372036854775807) (h20 : N < 20) :
    Calls Try.prog 74 #[.slice (some ⟨g, 0, none⟩) N co, .int .i64 N, .func (.func 64) #[] #[.pointer (some ⟨kf, 0, none⟩), .pointer (some ⟨kl, 0, none⟩)]] w
      (fun e w' => e = .returned (.tuple #[]) ∧ So W kf kl g n cap N a l (insF (ltI l) 0 N D) w') := by
  have I := Lib.hid (insert_walk W kf kl g n cap N co a l D 0 N w h hN hc (Nat.le_refl _) (by omega))
  have n1 : ¬ (20 : Int) ≤ (N : Int) := by omega
  have n2 : ¬ (20 : Int) < (N : Int) := by omega
  have n3 : ¬ 20 ≤ N := by omega
  have n4 : ¬ 20 < N := by omega
  clear h
  go_enter Try.func74, Try.ntmps74
  go_wp2_with fail
  go_loopw [7, 8] (fun v i wr => v = .int .i64 0 ∧ i = .int .i64 20 ∧ w = wr) (fun _ i _ => 0)
  case atStart => exact ⟨rfl, rfl, rfl⟩
  case round =>
    obtain ⟨rfl, rfl, rfl⟩ := hrel
    go_wp2_with fail
    refine I.out.mono ?_
    rintro e w1 ⟨rfl, s1⟩
    have S1 := Lib.hid s1
    clear s1 I
    go_wp2_with fail
    go_loopw [6] (fun i wr => i = .int .i64 20 ∧ w1 = wr) (fun i _ => 0)
    case atStart => exact ⟨rfl, rfl⟩
    case round =>
      obtain ⟨rfl, rfl⟩ := hrel
      go_wp2_with fail
      go_end0
      exact ⟨rfl, S1.out⟩
theorem sort_walk (W : World) (kf kl g n cap N co : Nat) (a : Option Addr) (l : List Pt) (D : List Nat) (w : World) (h : So W kf kl g n cap N a l D w) (hN : N ≤ co) (hc : co ≤ 9223372036854775807) (h20 : N < 20) :
    Calls Try.prog 63 #[.slice (some ⟨g, 0, none⟩) N co, .func (.func 64) #[] #[.pointer (some ⟨kf, 0, none⟩), .pointer (some ⟨kl, 0, none⟩)]] w
      (fun e w' => e = .returned (.tuple #[]) ∧ So W kf kl g n cap N a l (insF (ltI l) 0 N D) w') := by
  have I := Lib.hid (stable_walk W kf kl g n cap N co a l D w h hN hc h20)
  clear h
  go_enter Try.func63, Try.ntmps63
  go_wp2_with fail
  refine I.out.mono ?_
  rintro e w1 ⟨rfl, s1⟩
  have S1 := Lib.hid s1
  clear s1 I
  go_wp2_with fail
  go_end0
  exact ⟨rfl, S1.out⟩
end Go.Proofs.Ytdngkeefbpffcaa

set_option autoImplicit false
set_option linter.unusedVariables false
namespace Pl
open Lk
/-- two parts change places, i of each -/
def swR (D : List Nat) (a b : Nat) : Nat → List Nat
  | 0 => D
  | i + 1 => ((swR D a b i).set (a + i) ((swR D a b i).getD (b + i) 0)).set (b + i) ((swR D a b i).getD (a + i) 0)
theorem swR_len (D : List Nat) (a b : Nat) : ∀ i, (swR D a b i).length = D.length
  | 0 => rfl
  | i + 1 => by rw [swR, List.length_set, List.length_set, swR_len D a b i]
theorem getD_set (D : List Nat) (p k x : Nat) (hp : p < D.length) : (D.set p x).getD k 0 = if k = p then x else D.getD k 0 := by
  rw [List.getD_eq_getElem?_getD, List.getD_eq_getElem?_getD]
  by_cases h : k = p
  · subst h; rw [List.getElem?_set_self hp, if_pos rfl]; rfl
  · rw [List.getElem?_set_ne (by omega), if_neg h]
theorem swR_get (D : List Nat) (a b n : Nat) (hab : a + n ≤ b) (hb : b + n ≤ D.length) : ∀ i, i ≤ n → ∀ k, (swR D a b i).getD k 0 = if a ≤ k ∧ k < a + i then D.getD (k - a + b) 0 else if b ≤ k ∧ k < b + i then D.getD (k - b + a) 0 else D.getD k 0
  | 0, _, k => by rw [swR, if_neg (by omega), if_neg (by omega)]
  | i + 1, hi, k => by
    have ih := swR_get D a b n hab hb i (by omega)
    have l := swR_len D a b i
    rw [swR, getD_set _ _ _ _ (by rw [List.length_set]; omega), getD_set _ _ _ _ (by omega), ih (a + i), ih (b + i), ih k]
    by_cases h1 : k = b + i
    · subst h1
      rw [if_pos rfl, if_neg (by omega), if_neg (by omega), if_neg (by omega), if_pos (by omega), show b + i - b + a = a + i by omega]
    · rw [if_neg h1]
      by_cases h2 : k = a + i
      · subst h2
        rw [if_pos rfl, if_neg (by omega), if_neg (by omega), if_pos (by omega), show a + i - a + b = b + i by omega]
      · rw [if_neg h2]
        by_cases h3 : a ≤ k ∧ k < a + i
        · rw [if_pos h3, if_pos (by omega)]
        · have h5 : ¬ (a ≤ k ∧ k < a + (i + 1)) := by omega
          rw [if_neg h3, if_neg h5]
          by_cases h4 : b ≤ k ∧ k < b + i
          · have h6 : b ≤ k ∧ k < b + (i + 1) := by omega
            rw [if_pos h4, if_pos h6]
          · have h6 : ¬ (b ≤ k ∧ k < b + (i + 1)) := by omega
            rw [if_neg h4, if_neg h6]
theorem getD_mem {D : List Nat} {n k : Nat} (h : ∀ x ∈ D, x < n) (hk : k < D.length) : D.getD k 0 < n := by
  rw [List.getD_eq_getElem?_getD, List.getElem?_eq_getElem hk]; exact h _ (List.getElem_mem hk)
theorem getD_get {D : List Nat} {k : Nat} (hk : k < D.length) : D[k]? = some (D.getD k 0) := by
  rw [List.getD_eq_getElem?_getD, List.getElem?_eq_getElem hk]; rfl
end Pl
namespace Go.Proofs.Ytdngkeefbpffcaa
open Go.RowKit Lk Pl
def TNo : FuncId → Array Value → Value → World → Prop := fun _ _ _ _ => False
theorem So.sw {W : World} {kf kl g n cap N : Nat} {a : Option Addr} {l : List Pt} {E : List Nat} {w w' : World} {p q : Nat} (h : So W kf kl g n cap N a l E w) (hp : p < N) (hq : q < N)
    (hd : Di w' g ((E.set p (E.getD q 0)).set q (E.getD p 0))) (hb : Below g w w') : So W kf kl g n cap N a l ((E.set p (E.getD q 0)).set q (E.getD p 0)) w' := by
  have l := h.len
  refine ⟨h.cl, h.hg, h.b.trans (hb.mono h.hg), hd, by rw [List.length_set, List.length_set]; exact h.len, fun x hx => ?_⟩
  rcases List.mem_or_eq_of_mem_set hx with hx | rfl
  · rcases List.mem_or_eq_of_mem_set hx with hx | rfl
    · exact h.mem x hx
    · exact getD_mem h.mem (by omega)
  · exact getD_mem h.mem (by omega)
set_option maxRecDepth 100000 in
set_option maxHeartbeats 4000000 in
theorem swr_walk (W : World) (kf kl g n cap N co : Nat) (a : Option Addr) (l : List Pt) (D : List Nat) (p q c : Nat) (w : World) (h : So W kf kl g n cap N a l D w) (hN : N ≤ co) (hc : co ≤ 9223372036854775807) (hpq : p + c ≤ q) (hq : q + c ≤ N) :
    Calls Try.prog 81 #[.slice (some ⟨g, 0, none⟩) N co, .int .i64 p, .int .i64 q, .int .i64 c, .func (.func 64) #[] #[.pointer (some ⟨kf, 0, none⟩), .pointer (some ⟨kl, 0, none⟩)]] w
      (fun e w' => e = .returned (.tuple #[]) ∧ So W kf kl g n cap N a l (swR D p q c) w') := by
  have S0 := Lib.hid h
  clear h
  go_enter Try.func81, Try.ntmps81
  go_wp2_with fail
  go_loopw [10] (fun i wr => ∃ k : Nat, i = .int .i64 k ∧ k ≤ c ∧ So W kf kl g n cap N a l (swR D p q k) wr) (fun i _ => c - (intOf i).toNat)
  case atStart => exact ⟨0, rfl, by omega, S0.out⟩
  case round =>
    clear S0
    obtain ⟨k, rfl, hk, hs⟩ := hrel
    have SE := Lib.hid hs
    clear hs
    by_cases hlt : k < c
    · have kc : (k : Int) < (c : Int) := by omega
      obtain ⟨E, hE⟩ : ∃ E, E = swR D p q k := ⟨_, rfl⟩
      have NX := Lib.hid (show (E.set (p + k) (E.getD (q + k) 0)).set (q + k) (E.getD (p + k) 0) = swR D p q (k + 1) by rw [hE]; rfl)
      rw [← hE] at SE
      have lE := SE.out.len
      have c0 := SE.out.d.cell (getD_get (D := E) (k := p + k) (by omega))
      have c1 := SE.out.d.cell (getD_get (D := E) (k := q + k) (by omega))
      generalize hx : E.getD (p + k) 0 = x at c0 NX
      generalize hy : E.getD (q + k) 0 = y at c1 NX
      have HX := Lib.hid hx
      have HY := Lib.hid hy
      have f0 := SE.out.d.frozen (p + k)
      have f1 := SE.out.d.frozen (q + k)
      have lg := SE.out.d.lt
      have pk0 : 0 ≤ (p : Int) + (k : Int) := by omega
      have pk1 : (p : Int) + (k : Int) < (N : Int) := by omega
      have pk2 : ((p : Int) + (k : Int)).toNat = p + k := by omega
      have pk3 : IntKind.i64.wrap ((p : Int) + (k : Int)) = (p : Int) + (k : Int) := IntWalk.i64_in _ (by omega)
      have qk0 : 0 ≤ (q : Int) + (k : Int) := by omega
      have qk1 : (q : Int) + (k : Int) < (N : Int) := by omega
      have qk2 : ((q : Int) + (k : Int)).toNat = q + k := by omega
      have qk3 : IntKind.i64.wrap ((q : Int) + (k : Int)) = (q : Int) + (k : Int) := IntWalk.i64_in _ (by omega)
      have pN : p + k < N := by omega
      have qN : q + k < N := by omega
      clear hE hx hy lE
      go_wp2_with fail
      go_region
      all_goals
        go_wp2_with fail
        go_roundw
        case rel => exact ⟨k + 1, by go_num, by omega, by
          have := SE.out.sw (p := p + k) (q := q + k) (w' := ((wr.drewN 1).setCell ⟨g, p + k, none⟩ (.int .i64 (y : Int))).setCell ⟨g, q + k, none⟩ (.int .i64 (x : Int))) pN qN (by rw [HX.out, HY.out]; exact (SE.out.d.set (p + k) y).set (q + k) x) (by (repeat' (first | assumption | exact Below.refl _ _ | refine below_drewN ?_ _ | refine Below.drew ?_ | refine Below.setCell ?_ (by first | exact Nat.le_refl _ | (simp; done) | (simp; omega)) _ | refine Below.alloc ?_ (by first | exact Nat.le_refl _ | (simp; done) | (simp; omega)) _)))
          rw [HX.out, HY.out, NX.out] at this
          exact this⟩
        case measure => simp only [intOf]; omega
    · obtain rfl : k = c := by omega
      go_wp2_with fail
      go_end0
      exact ⟨rfl, SE.out⟩
end Go.Proofs.Ytdngkeefbpffcaa
