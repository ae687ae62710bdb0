import Derived.Test.YthdpkmdkoldneaaNsW
import Derived.Deep.OwnRows
set_option autoImplicit false
set_option linter.unusedVariables false
namespace Go.Proofs.Ythdpkmdkoldneaa
open Go.RowKit Lk
theorem skp_skp (s j k : Nat) : skp (skp s j) k = skp s (j + k) := by unfold skp GOLD; omega
theorem skp_lt' (s j : Nat) : skp s j < 2 ^ 64 := by unfold skp; exact Nat.mod_lt _ (by decide)
def pr1 (s wd : Nat) : Nat := fmul (bellF s) wd
def pr2 (s wd : Nat) : Nat := fmul (bellF (skp s 12)) wd
theorem pair_walk (s b wd : Nat) (w : World) (hs : s < 2 ^ 64) (hb : BlN w b s) : Calls Try.prog 18 #[.pointer (some ⟨b, 0, none⟩), .float .f64 wd] w
    (fun e w' => ∃ x y, e = .returned (.complex .f64 x y) ∧ Is x (pr1 s wd) ∧ Is y (pr2 s wd) ∧ BlN w' b (skp s 24) ∧ One b w w') := by
  go_enter Try.func18, Try.ntmps18
  go_wp2_with fail
  refine (bell_walk s b _ hs hb).mono ?_; rintro e w1 ⟨rfl, h1, o1⟩
  go_wp2_with ((with_reducible refine wpList_float (x := ?_) (y := ?_) (X := ?_) (Y := ?_) rfl rfl ?_ ?_ ?_ ?_ ?_ ?_); (· rfl); (rotate_left 4); (· rfl); (· rfl); (· first | assumption | exact Is.refl _); (· first | assumption | exact Is.refl _); intro v n hv hl)
  have hu := hv
  clear hv hl
  generalize v = u0 at *
  refine (bell_walk (skp s 12) b _ (skp_lt' _ _) (show BlN (w1.drewN n) b _ from h1)).mono ?_; rintro e w2 ⟨rfl, h2, o2⟩
  go_wp2_with ((with_reducible refine wpList_float (x := ?_) (y := ?_) (X := ?_) (Y := ?_) rfl rfl ?_ ?_ ?_ ?_ ?_ ?_); (· rfl); (rotate_left 4); (· rfl); (· rfl); (· first | assumption | exact Is.refl _); (· first | assumption | exact Is.refl _); intro v n hv hl)
  go_ret
  refine ⟨_, _, rfl, hu, hv, ?_, ((o1.drew _).trans o2).drew _⟩
  rw [skp_skp] at h2
  exact h2
theorem cx_info : (Try.prog.info? 40).map (fun i => (i.zero, i.size, i.bytes)) = some (some (.complex .f64 0 0), 1, 16) := by kernel_rfl
theorem u38 : Try.prog.underlying 38 = some (.slice 40) := by kernel_rfl
/-- a row's contents, as far as they go -/
def Rw (f : Nat → Nat × Nat) (s wd k : Nat) : Prop := ∀ j, j < k → Is (f j).1 (pr1 (skp s (24 * j)) wd) ∧ Is (f j).2 (pr2 (skp s (24 * j)) wd)
def cxv (f : Nat → Nat × Nat) : Nat → Value := fun i => .complex .f64 (f i).1 (f i).2
theorem One.setNew {b g i : Nat} {w w' : World} (h : One b w w') (hg : w.heap.size ≤ g) (v : Value) : One b w (w'.setCell ⟨g, i, none⟩ v) :=
  ⟨h.os, h.tape, h.output, by simpa [World.setCell] using h.size, fun k hk hn => (Deep.blk_setCell_other w' ⟨g, i, none⟩ v k (by show k ≠ g; omega)).trans (h.block k hk hn)⟩
theorem BlN.setOther {b g i s : Nat} {w : World} (h : BlN w b s) (hn : b ≠ g) (v : Value) : BlN (w.setCell ⟨g, i, none⟩ v) b s :=
  (Deep.blk_setCell_other w ⟨g, i, none⟩ v b hn).trans h
theorem One.new {b : Nat} (w : World) (o : Obj) : One b w (w.alloc o) := One.of ((Below.refl _ _).alloc (Nat.le_refl _) o)
set_option maxHeartbeats 4000000 in
theorem row_walk (s b wd n : Nat) (w : World) (hs : s < 2 ^ 64) (hn : n ≤ 16384) (hb : BlN w b s) : Calls Try.prog 17 #[.pointer (some ⟨b, 0, none⟩), .int .i64 n, .float .f64 wd] w
    (fun e w' => ∃ f, e = .returned (.slice (some ⟨w.heap.size, 0, none⟩) n n) ∧ w'.rowIs w.heap.size 40 n (cxv f) ∧ Rw f s wd n ∧ BlN w' b (skp s (24 * n)) ∧ One b w w') := by
  have hmk := fun w => run_make_row' (P := Try.prog) 38 40 (.complex .f64 0 0) 16 u38 cx_info rfl .i64 .i64 n (by omega) (by omega) w
  have hlt0 := Lib.hid hb.lt
  go_enter Try.func17, Try.ntmps17
  go_wp2_with fail
  go_loopw [23] (fun i wr => ∃ (k : Nat) (f : Nat → Nat × Nat), k ≤ n ∧ i = .int .i64 k ∧ wr.rowIs w.heap.size 40 n (cxv f) ∧ Rw f s wd k ∧ BlN wr b (skp s (24 * k)) ∧ One b w wr) (fun i _ => n - (intOf i).toNat)
  case atStart => exact ⟨0, fun _ => (0, 0), Nat.zero_le _, rfl, World.rowIs_made w (.complex .f64 0 0) n 40, fun j hj => absurd hj (Nat.not_lt_zero _), (by rw [show skp s (24 * 0) = s by unfold skp; omega]; exact hb.stay ((Below.refl _ _).alloc (Nat.le_refl _) _)), One.new _ _⟩
  case round =>
    obtain ⟨k, f, hk, rfl, hr, hf, hB, hO⟩ := hrel
    have HF := Lib.hid hf
    clear hf hmk hb
    by_cases hlt : k < n
    · go_wp2_with fail
      refine (pair_walk (skp s (24 * k)) b wd _ (skp_lt' _ _) hB).mono ?_; rintro e w1 ⟨x, y, rfl, hx, hy, h1, o1⟩
      have hbg : w.heap.size ≠ b := by have := hlt0.out; omega
      have R1 := hr.of_block (o1.block _ hr.lt hbg)
      have cR := R1.cell hlt
      have fR := R1.frozen k
      have RR := Lib.hid R1
      have H1 := Lib.hid h1
      have OO := Lib.hid (hO.trans o1)
      clear hr R1 h1 o1 hO hB
      have hk64 : (k : Int) < n := by omega
      go_wp2_with fail
      go_roundw
      case rel =>
        refine ⟨k + 1, fun j => if j = k then (x, y) else f j, by omega, by go_num, (RR.out.set k _).congr (fun j hj => ?_), fun j hj => ?_, ?_, OO.out.setNew (Nat.le_refl _) _⟩
        · by_cases h : j = k <;> simp [cxv, h]
        · show Is (if j = k then (x, y) else f j).1 _ ∧ Is (if j = k then (x, y) else f j).2 _
          by_cases h : j = k
          · rw [if_pos h, h]; exact ⟨hx, hy⟩
          · rw [if_neg h]; exact HF.out j (by omega)
        · have := H1.out.setOther (g := w.heap.size) (i := k) (fun h => hbg h.symm) (.complex .f64 x y)
          rw [skp_skp] at this
          exact this
      case measure => simp [intOf]; omega
    · obtain rfl : k = n := by omega
      go_wp2_with fail
      go_ret
      exact ⟨f, rfl, hr, HF.out, hB, hO⟩
theorem row_bad (s b wd : Nat) (n : Int) (w : World) (hn : n < 0 ∨ 16384 < n) (hb : BlN w b s) : Calls Try.prog 17 #[.pointer (some ⟨b, 0, none⟩), .int .i64 n, .float .f64 wd] w (fun e w' => e = .returned (.slice none 0 0) ∧ w = w') := by
  by_cases h : n < 0
  · go_enter Try.func17, Try.ntmps17
    go_wp2
    go_ret
    exact ⟨rfl, rfl⟩
  · have h2 : 16384 < n := by omega
    go_enter Try.func17, Try.ntmps17
    go_wp2
    go_ret
    exact ⟨rfl, rfl⟩
end Go.Proofs.Ythdpkmdkoldneaa
