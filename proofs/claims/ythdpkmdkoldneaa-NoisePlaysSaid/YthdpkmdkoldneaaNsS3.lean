import Derived.Test.YthdpkmdkoldneaaNsS
set_option autoImplicit false
set_option linter.unusedVariables false
namespace Go.Proofs.Ythdpkmdkoldneaa
open Go.RowKit Lk
/-- what is carried through a region: both sources, the step's own copy of what is asked -/
structure Iv (w : World) (b c : Nat) (k N : Int) (p wd : Nat) (W : World) (s t : Nat) : Prop where
  n : BlN W b s
  r : BlR W c t
  o : W.heap[w.heap.size]? = some (.cells #[.int .i64 k, .int .i64 N, .int .u64 p, .float .f64 wd] 35 (0, 0))
  two : Two b c w W
  hb : b < w.heap.size
  hc : c < w.heap.size
  ne : b ≠ c
theorem Iv.size {w W : World} {b c s t : Nat} {k n : Int} {p wd : Nat} (h : Iv w b c k n p wd W s t) : w.heap.size < W.heap.size := (Array.getElem?_eq_some_iff.1 h.o).1
theorem Iv.cell {w W : World} {b c s t : Nat} {k n : Int} {p wd : Nat} (h : Iv w b c k n p wd W s t) (i : Nat) : W.cell? ⟨w.heap.size, i, none⟩ = (#[Value.int .i64 k, .int .i64 n, .int .u64 p, .float .f64 wd] : Array Value)[i]? := cell_of_heap h.o i
theorem Iv.afterN {w W w' : World} {b c s t s' : Nat} {k n : Int} {p wd : Nat} (o : One b W w') (h : Iv w b c k n p wd W s t) (hn : BlN w' b s') : Iv w b c k n p wd w' s' t :=
  ⟨hn, h.r.keep o (fun e => h.ne e.symm), (o.block _ h.size (by have := h.hb; omega)).trans h.o, h.two.trans (Two.one o), h.hb, h.hc, h.ne⟩
theorem Iv.afterR {w W w' : World} {b c s t t' : Nat} {k n : Int} {p wd : Nat} (o : One c W w') (h : Iv w b c k n p wd W s t) (hr : BlR w' c t') : Iv w b c k n p wd w' s t' :=
  ⟨h.n.keep o h.ne, hr, (o.block _ h.size (by have := h.hc; omega)).trans h.o, h.two.trans (Two.one' o), h.hb, h.hc, h.ne⟩
theorem Iv.afterB {w W w' : World} {b c s t : Nat} {k n : Int} {p wd : Nat} (o : Below W.heap.size W w') (h : Iv w b c k n p wd W s t) : Iv w b c k n p wd w' s t :=
  ⟨h.n.stay o, h.r.stay o, (o.block _ h.size).trans h.o, h.two.trans (Two.of o), h.hb, h.hc, h.ne⟩
theorem Iv.drew {w W : World} {b c s t : Nat} {k n : Int} {p wd : Nat} (h : Iv w b c k n p wd W s t) (m : Nat) : Iv w b c k n p wd (W.drewN m) s t := ⟨h.n, h.r, h.o, h.two.drew m, h.hb, h.hc, h.ne⟩
theorem Iv.drew1 {w W : World} {b c s t : Nat} {k n : Int} {p wd : Nat} (h : Iv w b c k n p wd W s t) : Iv w b c k n p wd W.drew s t := ⟨h.n, h.r, h.o, h.two.drew 1, h.hb, h.hc, h.ne⟩
theorem Iv.begin {w : World} {b c s : Nat} {k n : Int} {p wd : Nat} (hbc : b ≠ c) (hB : Bth w b c s) : Iv w b c k n p wd (w.alloc (Obj.cells #[.int .i64 k, .int .i64 n, .int .u64 p, .float .f64 wd] 35)) s s :=
  ⟨hB.n.stay ((Below.refl _ _).alloc (Nat.le_refl _) _), hB.r.stay ((Below.refl _ _).alloc (Nat.le_refl _) _), (by show (w.heap.push _)[w.heap.size]? = _; simp), Two.of ((Below.refl _ _).alloc (Nat.le_refl _) _), hB.n.lt, hB.r.lt, hbc⟩
set_option maxHeartbeats 8000000 in
theorem step_pair (b c s : Nat) (n : Int) (p wd : Nat) (w : World) (hbc : b ≠ c) (hB : Bth w b c s) : Calls Try.prog 14 #[.pointer (some ⟨b, 0, none⟩), .pointer (some ⟨c, 0, none⟩), opv 3 n p wd] w (RST b c w) := by
  have hs := hB.lt
  have I := Lib.hid (Iv.begin (k := 3) (n := n) (p := p) (wd := wd) hbc hB)
  clear hB
  go_enter Try.func14, Try.ntmps14
  go_wp2_with fail
  generalize hW : w.alloc (Obj.cells #[.int .i64 3, .int .i64 n, .int .u64 p, .float .f64 wd] 35) = W at *
  clear hW
  have I := Lib.hid I.out.drew1
  have cw : W.drew.cell? ⟨w.heap.size, 3, none⟩ = some (.float .f64 wd) := I.out.cell 3
  go_region_with (first | (go_at_call 18; refine (pair_walk s b wd _ hs (show BlN _ b s from I.out.n)).mono ?_; rintro e w1 ⟨x1, y1, rfl, hx1, hy1, hN, o1⟩; have I := Lib.hid (Iv.afterN o1 I.out hN); clear hN o1; have cw : World.cell? _ ⟨w.heap.size, 3, none⟩ = some (.float .f64 wd) := I.out.cell 3) | (go_at_call 29; refine (rpair_walk s c wd _ hs (show BlR _ c s from I.out.r)).mono ?_; rintro e w2 ⟨x2, y2, rfl, hx2, hy2, hR, o2⟩; have I := Lib.hid (Iv.afterR o2 I.out hR); clear hR o2; have cw : World.cell? _ ⟨w.heap.size, 3, none⟩ = some (.float .f64 wd) := I.out.cell 3) | (go_at_call 28; refine (one_walk _ _ _).mono ?_; rintro e w3 ⟨rfl, b3⟩; have I := Lib.hid (Iv.afterB b3 I.out); clear b3; have cw : World.cell? _ ⟨w.heap.size, 3, none⟩ = some (.float .f64 wd) := I.out.cell 3) | (go_at_call 27; refine (same_walk _ _ _ _ _).mono ?_; rw [sameF_is (hx1.trans hx2.symm), sameF_is (hy1.trans hy2.symm)]; rintro e w4 ⟨rfl, b4⟩; have I := Lib.hid (Iv.afterB b4 I.out); clear b4))
  all_goals
    go_wp2_with fail
    go_ret
    exact ⟨rfl, skp s 24, ⟨I.out.n, I.out.r, skp_lt' _ _⟩, I.out.two⟩
end Go.Proofs.Ythdpkmdkoldneaa
