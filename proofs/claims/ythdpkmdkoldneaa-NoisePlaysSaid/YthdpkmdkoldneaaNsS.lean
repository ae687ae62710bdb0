import Derived.Test.YthdpkmdkoldneaaNsZ2
import Derived.Deep.RegionWith
set_option autoImplicit false
set_option linter.unusedVariables false
namespace Go.Proofs.Ythdpkmdkoldneaa
open Go.RowKit Lk
/-- nothing has turned but two blocks; memory may have grown -/
structure Two (b c : Nat) (w w' : World) : Prop where
  os : w'.os = w.os
  tape : w'.tape = w.tape
  output : w'.output = w.output
  size : w.heap.size ≤ w'.heap.size
  block : ∀ k, k < w.heap.size → k ≠ b → k ≠ c → w'.heap[k]? = w.heap[k]?
theorem Two.one {b c : Nat} {w w' : World} (h : One b w w') : Two b c w w' := ⟨h.os, h.tape, h.output, h.size, fun k hk hb _ => h.block k hk hb⟩
theorem Two.one' {b c : Nat} {w w' : World} (h : One c w w') : Two b c w w' := ⟨h.os, h.tape, h.output, h.size, fun k hk _ hc => h.block k hk hc⟩
theorem Two.of {b c : Nat} {w w' : World} (h : Below w.heap.size w w') : Two b c w w' := Two.one (One.of h)
theorem Two.trans {b c : Nat} {x y z : World} (h : Two b c x y) (k : Two b c y z) : Two b c x z :=
  ⟨k.os.trans h.os, k.tape.trans h.tape, k.output.trans h.output, Nat.le_trans h.size k.size, fun i hi hb hc => (k.block i (Nat.lt_of_lt_of_le hi h.size) hb hc).trans (h.block i hi hb hc)⟩
theorem Two.drew {b c : Nat} {w w' : World} (h : Two b c w w') (n : Nat) : Two b c w (w'.drewN n) := ⟨h.os, h.tape, h.output, h.size, h.block⟩
theorem Two.below {b c B : Nat} {w w' : World} (h : Two b c w w') (hb : B ≤ b) (hc : B ≤ c) (hs : B ≤ w.heap.size) : Below B w w' :=
  ⟨h.os, h.tape, h.output, h.size, fun k hk => h.block k (by omega) (by omega) (by omega)⟩
/-- both sources, the same state -/
structure Bth (w : World) (b c s : Nat) : Prop where
  n : BlN w b s
  r : BlR w c s
  lt : s < 2 ^ 64
abbrev opv (k n : Int) (p wd : Nat) : Value := .agg #[.int .i64 k, .int .i64 n, .int .u64 p, .float .f64 wd]
def RST (b c : Nat) (w : World) (e : Ending) (w' : World) : Prop := e = .returned (.bool true) ∧ ∃ s', Bth w' b c s' ∧ Two b c w w'
theorem u64_eq_self (m : Nat) : ((m : Int) == (m : Int)) = true := by simp
set_option maxHeartbeats 4000000 in
theorem step_next (b c s : Nat) (n : Int) (p wd : Nat) (w : World) (hbc : b ≠ c) (hB : Bth w b c s) : Calls Try.prog 14 #[.pointer (some ⟨b, 0, none⟩), .pointer (some ⟨c, 0, none⟩), opv 0 n p wd] w (RST b c w) := by
  have h1 : BlN (w.alloc (Obj.cells #[.int .i64 0, .int .i64 n, .int .u64 p, .float .f64 wd] 35)) b s := hB.n.stay ((Below.refl _ _).alloc (Nat.le_refl _) _)
  have h2 : BlR (w.alloc (Obj.cells #[.int .i64 0, .int .i64 n, .int .u64 p, .float .f64 wd] 35)) c s := hB.r.stay ((Below.refl _ _).alloc (Nat.le_refl _) _)
  have o0 : Two b c w (w.alloc (Obj.cells #[.int .i64 0, .int .i64 n, .int .u64 p, .float .f64 wd] 35)) := Two.of ((Below.refl _ _).alloc (Nat.le_refl _) _)
  clear hB
  go_enter Try.func14, Try.ntmps14
  go_wp2_with fail
  refine (next_walk s b _ h1).mono ?_; rintro e w1 ⟨rfl, h3, o1⟩
  have h4 := h2.keep o1 (fun h => hbc h.symm)
  go_wp2_with fail
  refine (rnext_walk s c _ h4).mono ?_; rintro e w2 ⟨rfl, h5, o2⟩
  have h6 := h3.keep o2 hbc
  go_wp2_with fail
  go_ret
  exact ⟨rfl, nx s, ⟨h6, h5, nx_lt _⟩, (o0.trans (Two.one o1)).trans (Two.one' o2)⟩
set_option maxHeartbeats 4000000 in
theorem step_float (b c s : Nat) (n : Int) (p wd : Nat) (w : World) (hbc : b ≠ c) (hB : Bth w b c s) : Calls Try.prog 14 #[.pointer (some ⟨b, 0, none⟩), .pointer (some ⟨c, 0, none⟩), opv 1 n p wd] w (RST b c w) := by
  have h1 : BlN (w.alloc (Obj.cells #[.int .i64 1, .int .i64 n, .int .u64 p, .float .f64 wd] 35)) b s := hB.n.stay ((Below.refl _ _).alloc (Nat.le_refl _) _)
  have h2 : BlR (w.alloc (Obj.cells #[.int .i64 1, .int .i64 n, .int .u64 p, .float .f64 wd] 35)) c s := hB.r.stay ((Below.refl _ _).alloc (Nat.le_refl _) _)
  have o0 : Two b c w (w.alloc (Obj.cells #[.int .i64 1, .int .i64 n, .int .u64 p, .float .f64 wd] 35)) := Two.of ((Below.refl _ _).alloc (Nat.le_refl _) _)
  clear hB
  go_enter Try.func14, Try.ntmps14
  go_wp2_with fail
  refine (float_walk s b _ h1).mono ?_; rintro e w1 ⟨rfl, h3, o1⟩
  have h4 := h2.keep o1 (fun h => hbc h.symm)
  go_wp2_with fail
  refine (rfloat_walk s c _ h4).mono ?_; rintro e w2 ⟨rfl, h5, o2⟩
  have h6 := h3.keep o2 hbc
  go_wp2_with fail
  refine (samefloat_walk _ _ _).mono ?_; rw [sameF_is (Is.refl _)]; rintro e w3 ⟨rfl, rfl⟩
  go_wp2_with fail
  go_ret
  exact ⟨rfl, nx s, ⟨h6, h5, nx_lt _⟩, (o0.trans (Two.one o1)).trans (Two.one' o2)⟩
set_option maxHeartbeats 4000000 in
theorem step_bell (b c s : Nat) (n : Int) (p wd : Nat) (w : World) (hbc : b ≠ c) (hB : Bth w b c s) : Calls Try.prog 14 #[.pointer (some ⟨b, 0, none⟩), .pointer (some ⟨c, 0, none⟩), opv 2 n p wd] w (RST b c w) := by
  have hs := hB.lt
  have h1 : BlN (w.alloc (Obj.cells #[.int .i64 2, .int .i64 n, .int .u64 p, .float .f64 wd] 35)) b s := hB.n.stay ((Below.refl _ _).alloc (Nat.le_refl _) _)
  have h2 : BlR (w.alloc (Obj.cells #[.int .i64 2, .int .i64 n, .int .u64 p, .float .f64 wd] 35)) c s := hB.r.stay ((Below.refl _ _).alloc (Nat.le_refl _) _)
  have o0 : Two b c w (w.alloc (Obj.cells #[.int .i64 2, .int .i64 n, .int .u64 p, .float .f64 wd] 35)) := Two.of ((Below.refl _ _).alloc (Nat.le_refl _) _)
  clear hB
  go_enter Try.func14, Try.ntmps14
  go_wp2_with fail
  refine (bell_walk s b _ hs h1).mono ?_; rintro e w1 ⟨rfl, h3, o1⟩
  have h4 := h2.keep o1 (fun h => hbc h.symm)
  go_wp2_with fail
  refine (rbell_walk s c _ hs h4).mono ?_; rintro e w2 ⟨rfl, h5, o2⟩
  have h6 := h3.keep o2 hbc
  go_wp2_with fail
  refine (samefloat_walk _ _ _).mono ?_; rw [sameF_is (Is.refl _)]; rintro e w3 ⟨rfl, rfl⟩
  go_wp2_with fail
  go_ret
  exact ⟨rfl, skp s 12, ⟨h6, h5, skp_lt' _ _⟩, (o0.trans (Two.one o1)).trans (Two.one' o2)⟩
set_option maxHeartbeats 4000000 in
theorem step_skip (b c s : Nat) (n : Int) (p wd : Nat) (w : World) (hbc : b ≠ c) (hB : Bth w b c s) : Calls Try.prog 14 #[.pointer (some ⟨b, 0, none⟩), .pointer (some ⟨c, 0, none⟩), opv 5 n p wd] w (RST b c w) := by
  have h1 : BlN (w.alloc (Obj.cells #[.int .i64 5, .int .i64 n, .int .u64 p, .float .f64 wd] 35)) b s := hB.n.stay ((Below.refl _ _).alloc (Nat.le_refl _) _)
  have h2 : BlR (w.alloc (Obj.cells #[.int .i64 5, .int .i64 n, .int .u64 p, .float .f64 wd] 35)) c s := hB.r.stay ((Below.refl _ _).alloc (Nat.le_refl _) _)
  have o0 : Two b c w (w.alloc (Obj.cells #[.int .i64 5, .int .i64 n, .int .u64 p, .float .f64 wd] 35)) := Two.of ((Below.refl _ _).alloc (Nat.le_refl _) _)
  have hb0 := hB.n.lt
  have hc0 := hB.r.lt
  clear hB
  go_enter Try.func14, Try.ntmps14
  go_wp2_with fail
  refine (skip_walk s p b _ h1).mono ?_; rintro e w1 ⟨rfl, h3, o1⟩
  have h4 := h2.keep o1 (fun h => hbc h.symm)
  have cp : w1.cell? ⟨w.heap.size, 2, none⟩ = some (.int .u64 p) := by
    have : w1.heap[w.heap.size]? = (w.alloc (Obj.cells #[.int .i64 5, .int .i64 n, .int .u64 p, .float .f64 wd] 35)).heap[w.heap.size]? := o1.block _ (by simp) (by omega)
    have hn : (w.alloc (Obj.cells #[.int .i64 5, .int .i64 n, .int .u64 p, .float .f64 wd] 35)).heap[w.heap.size]? = some (.cells #[.int .i64 5, .int .i64 n, .int .u64 p, .float .f64 wd] 35 (0, 0)) := by
      show (w.heap.push _)[w.heap.size]? = _; simp
    exact cell_of_heap (this.trans hn) 2
  go_wp2_with fail
  refine (rskip_walk s p c _ h4).mono ?_; rintro e w2 ⟨rfl, h5, o2⟩
  have h6 := h3.keep o2 hbc
  go_wp2_with fail
  refine (state_walk _ _ _ h6).mono ?_; rintro e w3 ⟨rfl, rfl⟩
  go_wp2_with fail
  refine (rstate_walk _ _ _ h5).mono ?_; rintro e w3 ⟨rfl, rfl⟩
  go_wp2_with fail
  go_ret
  exact ⟨rfl, skp s p, ⟨h6, h5, skp_lt' _ _⟩, (o0.trans (Two.one o1)).trans (Two.one' o2)⟩
set_option maxHeartbeats 4000000 in
theorem step_state (b c s : Nat) (k n : Int) (p wd : Nat) (w : World) (hbc : b ≠ c) (hk : ¬ (0 ≤ k ∧ k ≤ 5)) (hB : Bth w b c s) : Calls Try.prog 14 #[.pointer (some ⟨b, 0, none⟩), .pointer (some ⟨c, 0, none⟩), opv k n p wd] w (RST b c w) := by
  have hs := hB.lt
  have h1 : BlN (w.alloc (Obj.cells #[.int .i64 k, .int .i64 n, .int .u64 p, .float .f64 wd] 35)) b s := hB.n.stay ((Below.refl _ _).alloc (Nat.le_refl _) _)
  have h2 : BlR (w.alloc (Obj.cells #[.int .i64 k, .int .i64 n, .int .u64 p, .float .f64 wd] 35)) c s := hB.r.stay ((Below.refl _ _).alloc (Nat.le_refl _) _)
  have o0 : Two b c w (w.alloc (Obj.cells #[.int .i64 k, .int .i64 n, .int .u64 p, .float .f64 wd] 35)) := Two.of ((Below.refl _ _).alloc (Nat.le_refl _) _)
  clear hB
  have n0 : ¬ k = 0 := by omega
  have n1 : ¬ k = 1 := by omega
  have n2 : ¬ k = 2 := by omega
  have n3 : ¬ k = 3 := by omega
  have n4 : ¬ k = 4 := by omega
  have n5 : ¬ k = 5 := by omega
  clear hk
  go_enter Try.func14, Try.ntmps14
  go_wp2_with fail
  refine (state_walk _ _ _ h1).mono ?_; rintro e w3 ⟨rfl, rfl⟩
  go_wp2_with fail
  refine (rstate_walk _ _ _ h2).mono ?_; rintro e w3 ⟨rfl, rfl⟩
  go_wp2_with fail
  go_ret
  exact ⟨rfl, s, ⟨h1, h2, hs⟩, o0⟩
end Go.Proofs.Ythdpkmdkoldneaa
