import Derived.Test.YtgdkmakmdomdbaaPnO
set_option autoImplicit false
set_option linter.unusedVariables false
namespace Go.Proofs.Ytgdkmakmdomdbaa
open Go.RowKit Lk Pn
theorem bef_walk (a b : Job) (B : Bool) (hB : B = bef a b) (w : World) : Calls Try.prog 46 #[.agg #[.int .i64 a.due, .int .i64 a.rk, .int .i64 a.task], .agg #[.int .i64 b.due, .int .i64 b.rk, .int .i64 b.task]] w
    (fun e w' => e = .returned (.bool B) ∧ Below w.heap.size w w') := by
  obtain ⟨d1, r1, t1⟩ := a
  obtain ⟨d2, r2, t2⟩ := b
  unfold bef at hB
  simp only at hB ⊢
  by_cases h1 : d1 = d2
  · subst h1
    rw [if_neg (by simp)] at hB
    by_cases h2 : r1 = r2
    · subst h2
      rw [if_neg (by simp)] at hB
      subst hB
      by_cases h3 : t1 < t2
      · rw [decide_eq_true h3]
        go_enter Try.func46, Try.ntmps46
        go_wp2_with fail
        go_ret
        exact ⟨rfl, by (repeat' (first | exact Below.refl _ _ | refine below_drewN ?_ _ | refine Below.setCell ?_ (by first | exact Nat.le_refl _ | (simp; done) | (simp; omega)) _ | refine Below.alloc ?_ (by first | exact Nat.le_refl _ | (simp; done) | (simp; omega)) _))⟩
      · rw [decide_eq_false h3]
        go_enter Try.func46, Try.ntmps46
        go_wp2_with fail
        go_ret
        exact ⟨rfl, by (repeat' (first | exact Below.refl _ _ | refine below_drewN ?_ _ | refine Below.setCell ?_ (by first | exact Nat.le_refl _ | (simp; done) | (simp; omega)) _ | refine Below.alloc ?_ (by first | exact Nat.le_refl _ | (simp; done) | (simp; omega)) _))⟩
    · rw [if_pos h2] at hB
      have e1 : (r1 == r2) = false := by simpa using h2
      have e2 : (r1 != r2) = true := by simpa using h2
      subst hB
      by_cases h3 : r2 < r1
      · rw [decide_eq_true h3]
        clear h2
        go_enter Try.func46, Try.ntmps46
        go_wp2_with fail
        go_ret
        exact ⟨rfl, by (repeat' (first | exact Below.refl _ _ | refine below_drewN ?_ _ | refine Below.setCell ?_ (by first | exact Nat.le_refl _ | (simp; done) | (simp; omega)) _ | refine Below.alloc ?_ (by first | exact Nat.le_refl _ | (simp; done) | (simp; omega)) _))⟩
      · rw [decide_eq_false h3]
        clear h2
        go_enter Try.func46, Try.ntmps46
        go_wp2_with fail
        go_ret
        exact ⟨rfl, by (repeat' (first | exact Below.refl _ _ | refine below_drewN ?_ _ | refine Below.setCell ?_ (by first | exact Nat.le_refl _ | (simp; done) | (simp; omega)) _ | refine Below.alloc ?_ (by first | exact Nat.le_refl _ | (simp; done) | (simp; omega)) _))⟩
  · rw [if_pos h1] at hB
    have e1 : (d1 == d2) = false := by simpa using h1
    have e2 : (d1 != d2) = true := by simpa using h1
    subst hB
    by_cases h3 : d1 < d2
    · rw [decide_eq_true h3]
      clear h1
      go_enter Try.func46, Try.ntmps46
      go_wp2_with fail
      go_ret
      exact ⟨rfl, by (repeat' (first | exact Below.refl _ _ | refine below_drewN ?_ _ | refine Below.setCell ?_ (by first | exact Nat.le_refl _ | (simp; done) | (simp; omega)) _ | refine Below.alloc ?_ (by first | exact Nat.le_refl _ | (simp; done) | (simp; omega)) _))⟩
    · rw [decide_eq_false h3]
      clear h1
      go_enter Try.func46, Try.ntmps46
      go_wp2_with fail
      go_ret
      exact ⟨rfl, by (repeat' (first | exact Below.refl _ _ | refine below_drewN ?_ _ | refine Below.setCell ?_ (by first | exact Nat.le_refl _ | (simp; done) | (simp; omega)) _ | refine Below.alloc ?_ (by first | exact Nat.le_refl _ | (simp; done) | (simp; omega)) _))⟩
/-- each: what holds is carried from line to line -/
theorem each_walk (f : FuncId) (caps : Array Value) (p lb n cap : Nat) (I : Nat → World → Prop) (w : World) (hn : n ≤ cap) (hc : cap ≤ 9223372036854775807)
    (hcf : ∀ (args : Array Value) (w : World), (callFunc f args).run Try.prog w = .ok (.enter f args) w)
    (hp : ∀ k x, I k x → x.cell? ⟨p, 0, none⟩ = some (.slice (some ⟨lb, 0, none⟩) n cap)) (h0 : I 0 w)
    (hf : ∀ k x, k < n → I k x → Calls Try.prog f (#[.int .i64 k, .pointer (some ⟨lb, k * 6, none⟩)] ++ caps) x (fun e x' => e = .returned (.tuple #[]) ∧ I (k + 1) x')) :
    Calls Try.prog 43 #[.pointer (some ⟨p, 0, none⟩), .func (.func f) #[] caps] w (fun e w' => e = .returned (.tuple #[]) ∧ I n w') := by
  have HF := Lib.hid hf
  have HP := Lib.hid hp
  have p0 := hp 0 w h0
  have H0 := Lib.hid h0
  clear hf hp h0
  go_enter Try.func43, Try.ntmps43
  go_wp2_with fail
  go_loopw [10] (fun i wr => ∃ k : Nat, k ≤ n ∧ i = .int .i64 k ∧ I k wr) (fun i _ => n - (intOf i).toNat)
  case atStart => exact ⟨0, by omega, rfl, H0.out⟩
  case round =>
    obtain ⟨k, hk, rfl, hi⟩ := hrel
    have p0 := HP.out k wr hi
    have HI := Lib.hid hi
    clear hi
    by_cases hlt : k < n
    · have hk64 : (k : Int) < (n : Int) := by omega
      go_wp2_with fail
      refine (HF.out k _ hlt HI.out).mono ?_; rintro e w2 ⟨rfl, h2⟩
      have H2 := Lib.hid h2
      clear h2
      go_wp2_with fail
      go_roundw
      case rel => exact ⟨k + 1, by omega, by go_num, H2.out⟩
      case measure => simp [intOf]; omega
    · obtain rfl : k = n := by omega
      go_wp2_with fail
      go_end0
      exact ⟨rfl, HI.out⟩
end Go.Proofs.Ytgdkmakmdomdbaa
