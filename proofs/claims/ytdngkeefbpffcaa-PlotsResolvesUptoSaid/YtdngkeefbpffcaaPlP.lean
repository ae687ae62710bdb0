import Derived.Test.YtdngkeefbpffcaaPlO
set_option autoImplicit false
set_option linter.unusedVariables false
namespace Pl
open Lk
def sumP : List Nat → Nat
  | [] => 0
  | p :: ps => ps.foldl fadd p
theorem sum_step {p x : Nat} {ps : List Nat} {k : Nat} (h : ps[k]? = some x) : (ps.take (k + 1)).foldl fadd p = fadd ((ps.take k).foldl fadd p) x := by
  rw [List.take_add_one, h, List.foldl_append]; rfl
end Pl
namespace Go.Proofs.Ytdngkeefbpffcaa
open Go.RowKit Lk Pl
theorem row_cell {w : World} {B : Nat} {v : Value} {P : List Nat} (h : w.ownsRow B 22 1 v P.length (flv P)) (hP : 0 < P.length) : ∃ g c, v = .slice (some ⟨g, 0, none⟩) P.length c ∧ g < w.heap.size ∧ P.length ≤ c ∧ c ≤ 9223372036854775807 ∧ ∀ k x : Nat, P[k]? = some x → w.cell? ⟨g, k, none⟩ = some (.float .f64 x) := by
  rcases h.2 with ⟨rfl, h0⟩ | ⟨g, cap, cur, rfl, hB, hb, h1, h2, _, h3⟩
  · omega
  · refine ⟨g, cap, rfl, (Array.getElem?_eq_some_iff.1 hb).1, h1, by unfold maxLen at h2; omega, fun k x hx => ?_⟩
    have := h.cells (g := g) rfl k (.float .f64 x) (by unfold flv; rw [List.getElem?_map, hx]; rfl)
    rw [Addr.add_lit] at this
    simpa using this
set_option maxRecDepth 100000 in
set_option maxHeartbeats 4000000 in
theorem sums_walk (B : Nat) (v : Value) (p : Nat) (ps : List Nat) (w : World) (h : w.ownsRow B 22 1 v (ps.length + 1) (flv (p :: ps))) (hlt : ∀ x ∈ p :: ps, x < 2 ^ 64) (hn : ps.length ≤ 1048576) :
    Calls Try.prog 45 #[v] w (fun e w' => ∃ x, e = .returned (.float .f64 x) ∧ Is x (sumP (p :: ps)) ∧ x < 2 ^ 64 ∧ Below w.heap.size w w') := by
  obtain ⟨g, c, rfl, gl, hc, h63, cells⟩ := row_cell (P := p :: ps) h (by simp)
  have c0 := cells 0 p rfl
  have CE := Lib.hid (fun k x (hx : ps[k]? = some x) => cells (k + 1) x (by simpa using hx))
  have LT := Lib.hid (fun x (hx : x ∈ ps) => hlt x (by simp [hx]))
  have p64 := hlt p (by simp)
  simp only [List.length_cons] at hc
  obtain ⟨M, hM⟩ : ∃ M, M = ps.length := ⟨_, rfl⟩
  have HM := Lib.hid hM
  have e1 : (Value.slice (some ⟨g, 0, none⟩) (p :: ps).length c) = .slice (some ⟨g, 0, none⟩) (M + 1) c := by rw [hM]; rfl
  rw [e1]
  rw [← hM] at hc hn
  have n0 : (((M : Int) + 1) == 0) = false := by rw [beq_eq_false_iff_ne]; omega
  have n1 : ¬ ((M : Int) + 1) = 0 := by omega
  clear cells hlt h e1 hM
  go_enter Try.func45, Try.ntmps45
  go_wp2_with fail
  · go_loopw [3, 15] (fun v3 vi wr => ∃ (k s : Nat), v3 = .float .f64 s ∧ vi = .int .i64 k ∧ k ≤ M ∧ Is s ((ps.take k).foldl fadd p) ∧ s < 18446744073709551616 ∧ Below w.heap.size w wr) (fun _ vi _ => M - (intOf vi).toNat)
    case atStart => exact ⟨0, p, rfl, rfl, by omega, Is.refl _, p64, Below.refl _ _⟩
    case round =>
      obtain ⟨k, s, rfl, rfl, hk, his, hs, hb⟩ := hrel
      have HB := Lib.hid hb
      clear hb
      by_cases hlt : k < M
      · exfalso; omega
      · have eT := Lib.hid (show ps.take k = ps from List.take_of_length_le (by rw [← HM.out]; omega))
        go_wp2_with fail
        go_ret
        exact ⟨s, rfl, by rw [eT.out] at his; exact his, hs, HB.out⟩
  · go_loopw [3, 15] (fun v3 vi wr => ∃ (k s : Nat), v3 = .float .f64 s ∧ vi = .int .i64 k ∧ k ≤ M ∧ Is s ((ps.take k).foldl fadd p) ∧ s < 18446744073709551616 ∧ Below w.heap.size w wr) (fun _ vi _ => M - (intOf vi).toNat)
    case atStart => exact ⟨0, p, rfl, rfl, by omega, Is.refl _, p64, Below.refl _ _⟩
    case round =>
      obtain ⟨k, s, rfl, rfl, hk, his, hs, hb⟩ := hrel
      have HB := Lib.hid hb
      clear hb
      by_cases hlt : k < M
      · obtain ⟨x, hx⟩ : ∃ x, ps[k]? = some x := ⟨_, List.getElem?_eq_getElem (by rw [← HM.out]; exact hlt)⟩
        have c1 := (HB.out.cell (p := ⟨g, k + 1, none⟩) gl).trans (CE.out k x hx)
        have c2 : wr.cell? ⟨g, 1 + k, none⟩ = some (.float .f64 x) := by rw [Nat.add_comm 1 k]; exact c1
        have gl2 := Nat.lt_of_lt_of_le gl HB.out.size
        have kn : (k : Int) < (M : Int) := by omega
        have ST := Lib.hid (sum_step (p := p) hx)
        clear hx
        go_wp2_with ((with_reducible refine wpList_float (x := ?_) (y := ?_) (X := ?_) (Y := ?_) rfl rfl ?_ ?_ ?_ ?_ ?_ ?_); (· rfl); (rotate_left 4); (· rfl); (· rfl); (· first | assumption | exact Is.refl _); (· first | assumption | exact Is.refl _); intro v n hv hl)
        go_roundw
        case rel => exact ⟨k + 1, v, rfl, by go_num, by omega, by rw [ST.out]; exact hv, hl, below_drewN HB.out _⟩
        case measure => simp only [intOf]; omega
      · have eT := Lib.hid (show ps.take k = ps from List.take_of_length_le (by rw [← HM.out]; omega))
        go_wp2_with fail
        go_ret
        exact ⟨s, rfl, by rw [eT.out] at his; exact his, hs, HB.out⟩
end Go.Proofs.Ytdngkeefbpffcaa
