import Derived.Test.YtdngkeefbpffcaaPlF
import Derived.Laws.MakeOwn
set_option autoImplicit false
set_option linter.unusedVariables false
namespace Go.Proofs.Ytdngkeefbpffcaa
open Go.RowKit Lk Pl
set_option maxHeartbeats 1000000 in
theorem stable_walk (W : World) (kf kl g n cap N co : Nat) (a : Option Addr) (l : List Pt) (D : List Nat) (w : World) (h : So W kf kl g n cap N a l D w) (hN : N ≤ co) (hc : co ≤ 9223372036854775807) (h20 : N < 20) :
    Calls Try.prog 74 #[.slice (some ⟨g, 0, none⟩) N co, .int .i64 N, .func (.func 64) #[] #[.pointer (some ⟨kf, 0, none⟩), .pointer (some ⟨kl, 0, none⟩)]] w
      (fun e w' => e = .returned (.tuple #[]) ∧ So W kf kl g n cap N a l (insF (ltI l) 0 N D) w') := by
  have I := Lib.hid (insert_walk W kf kl g n cap N co a l D 0 N w h hN hc (Nat.le_refl _) (by omega))
  have n1 : ¬ (20 : Int) ≤ (N : Int) := by omega
  have n2 : ¬ (20 : Int) < (N : Int) := by omega
  have n3 : ¬ 20 ≤ N := by omega
  have n4 : ¬ 20 < N := by omega
  clear h
  go_enter Try.func74, Try.ntmps74
  go_wp2_with fail
  go_loopw [7, 8] (fun v i wr => v = .int .i64 0 ∧ i = .int .i64 20 ∧ w = wr) (fun _ i _ => 0)
  case atStart => exact ⟨rfl, rfl, rfl⟩
  case round =>
    obtain ⟨rfl, rfl, rfl⟩ := hrel
    go_wp2_with fail
    refine I.out.mono ?_
    rintro e w1 ⟨rfl, s1⟩
    have S1 := Lib.hid s1
    clear s1 I
    go_wp2_with fail
    go_loopw [6] (fun i wr => i = .int .i64 20 ∧ w1 = wr) (fun i _ => 0)
    case atStart => exact ⟨rfl, rfl⟩
    case round =>
      obtain ⟨rfl, rfl⟩ := hrel
      go_wp2_with fail
      go_end0
      exact ⟨rfl, S1.out⟩
theorem sort_walk (W : World) (kf kl g n cap N co : Nat) (a : Option Addr) (l : List Pt) (D : List Nat) (w : World) (h : So W kf kl g n cap N a l D w) (hN : N ≤ co) (hc : co ≤ 9223372036854775807) (h20 : N < 20) :
    Calls Try.prog 63 #[.slice (some ⟨g, 0, none⟩) N co, .func (.func 64) #[] #[.pointer (some ⟨kf, 0, none⟩), .pointer (some ⟨kl, 0, none⟩)]] w
      (fun e w' => e = .returned (.tuple #[]) ∧ So W kf kl g n cap N a l (insF (ltI l) 0 N D) w') := by
  have I := Lib.hid (stable_walk W kf kl g n cap N co a l D w h hN hc h20)
  clear h
  go_enter Try.func63, Try.ntmps63
  go_wp2_with fail
  refine I.out.mono ?_
  rintro e w1 ⟨rfl, s1⟩
  have S1 := Lib.hid s1
  clear s1 I
  go_wp2_with fail
  go_end0
  exact ⟨rfl, S1.out⟩
end Go.Proofs.Ytdngkeefbpffcaa
