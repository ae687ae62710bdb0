import Derived.Test.YthdpkmdkoldneaaNsS3
set_option autoImplicit false
set_option linter.unusedVariables false
namespace Go.Proofs.Ythdpkmdkoldneaa
open Go.RowKit Lk
/-- a store into memory of the step's own -/
theorem Iv.afterG {w W w' : World} {b c s t g : Nat} {k n : Int} {p wd : Nat} (o : One g W w') (hg : w.heap.size < g) (h : Iv w b c k n p wd W s t) : Iv w b c k n p wd w' s t :=
  ⟨h.n.keep o (by have := h.hb; omega), h.r.keep o (by have := h.hc; omega), (o.block _ h.size (by omega)).trans h.o,
   ⟨o.os.trans h.two.os, o.tape.trans h.two.tape, o.output.trans h.two.output, Nat.le_trans h.two.size o.size, fun i hi hb hc => (o.block i (Nat.lt_of_lt_of_le hi h.two.size) (by omega)).trans (h.two.block i hi hb hc)⟩, h.hb, h.hc, h.ne⟩
theorem one_set {g i : Nat} (w : World) (v : Value) : One g w (w.setCell ⟨g, i, none⟩ v) :=
  ⟨rfl, rfl, rfl, by simp [World.setCell], fun k _ hk => Deep.blk_setCell_other _ _ _ _ hk⟩
/-- a list that the step has built, out of the sources' way -/
def Own (W : World) (c : Nat) (v : Value) (n : Nat) (f : Nat → Nat × Nat) : Prop := ∃ B, c < B ∧ W.ownsRow B 54 2 v n (flat f n)
theorem Own.one {W w' : World} {c n : Nat} {v : Value} {f : Nat → Nat × Nat} (o : One c W w') (h : Own W c v n f) : Own w' c v n f := by
  obtain ⟨B, h1, h2⟩ := h; exact ⟨B, h1, owns_one h2 o h1⟩
theorem Own.below {W w' : World} {c n : Nat} {v : Value} {f : Nat → Nat × Nat} (o : Below W.heap.size W w') (h : Own W c v n f) : Own w' c v n f := by
  obtain ⟨B, h1, h2⟩ := h; exact ⟨B, h1, owns_below h2 o⟩
theorem Own.lst {W : World} {c n : Nat} {v : Value} {f : Nat → Nat × Nat} (h : Own W c v n f) : Lst W v n f := by obtain ⟨B, _, h⟩ := h; exact lst_of h
theorem row_one {W w' : World} {g c n : Nat} {f : Nat → Nat × Nat} (o : One c W w') (hg : g ≠ c) (h : W.rowIs g 40 n (cxv f)) : w'.rowIs g 40 n (cxv f) := h.of_block (o.block g h.lt hg)
theorem row_below {W w' : World} {g n : Nat} {f : Nat → Nat × Nat} (o : Below W.heap.size W w') (h : W.rowIs g 40 n (cxv f)) : w'.rowIs g 40 n (cxv f) := h.of_block (o.block g h.lt)
theorem rows_same {f h : Nat → Nat × Nat} {s wd n : Nat} (a : Rw f s wd n) (b : Rw h s wd n) : ∀ j, j < n → sameF (f j).1 (h j).1 = true ∧ sameF (f j).2 (h j).2 = true :=
  fun j hj => ⟨sameF_is ((a j hj).1.trans (b j hj).1.symm), sameF_is ((a j hj).2.trans (b j hj).2.symm)⟩
set_option maxHeartbeats 8000000 in
theorem step_row (b c s n : Nat) (p wd : Nat) (w : World) (hn : n ≤ 16384) (hbc : b ≠ c) (hB : Bth w b c s) : Calls Try.prog 14 #[.pointer (some ⟨b, 0, none⟩), .pointer (some ⟨c, 0, none⟩), opv 4 n p wd] w (RST b c w) := by
  have hs := hB.lt
  have I := Lib.hid (Iv.begin (k := 4) (n := n) (p := p) (wd := wd) hbc hB)
  have hcw := hB.r.lt
  clear hB
  go_enter Try.func14, Try.ntmps14
  go_wp2_with fail
  refine (row_walk s b wd n _ hs hn I.out.n).mono ?_; rintro e w1 ⟨fa, rfl, RW0, RA, hN, o1⟩
  have I := Lib.hid (Iv.afterN o1 I.out hN)
  clear o1 hN
  have hgs : (w.alloc (Obj.cells #[.int .i64 4, .int .i64 n, .int .u64 p, .float .f64 wd] 35)).heap.size = w.heap.size + 1 := by simp
  rw [hgs] at RW0
  obtain ⟨g, hg⟩ : ∃ g, g = w.heap.size + 1 := ⟨_, rfl⟩
  go_wp2_with fail
  rw [← hg] at RW0 ⊢
  have hgc : g ≠ c := by omega
  have RW := Lib.hid (show w1.drew.rowIs g 40 n (cxv fa) from RW0)
  have RAH := Lib.hid RA
  clear RA RW0
  have I := Lib.hid I.out.drew1
  have cw : w1.drew.cell? ⟨w.heap.size, 3, none⟩ = some (.float .f64 wd) := I.out.cell 3
  have cn : w1.drew.cell? ⟨w.heap.size, 1, none⟩ = some (.int .i64 n) := I.out.cell 1
  have hgw : w.heap.size < g := by omega
  clear hg hgs
  have hci := I.out.hc
  go_region_with (first | (go_at_call 31; refine (of_walk g n fa _ hn RW.out).mono ?_; rintro e w2 ⟨va, rfl, hA, b2⟩; have OA := Lib.hid (show Own w2 c va n fa from ⟨_, Nat.lt_trans hci I.out.size, hA⟩); (try have OB := Lib.hid (Own.below b2 OB.out)); have I := Lib.hid (Iv.afterB b2 I.out); have RW := Lib.hid (row_below b2 RW.out); clear b2 hA; have cw : World.cell? _ ⟨w.heap.size, 3, none⟩ = some (.float .f64 wd) := I.out.cell 3; have cn : World.cell? _ ⟨w.heap.size, 1, none⟩ = some (.int .i64 n) := I.out.cell 1) | (go_at_call 32; refine (rrow_walk s c wd n _ hs hn (show BlR _ c s from I.out.r)).mono ?_; rintro e w3 ⟨vb, fb, rfl, hB3, hF, hR, o3⟩; have OB := Lib.hid (show Own w3 c vb n fb from ⟨_, Nat.lt_trans hci I.out.size, hB3⟩); have FF := Lib.hid hF; (try have OA := Lib.hid (Own.one o3 OA.out)); have I := Lib.hid (Iv.afterR o3 I.out hR); have RW := Lib.hid (row_one o3 hgc RW.out); clear o3 hB3 hR hF; have cw : World.cell? _ ⟨w.heap.size, 3, none⟩ = some (.float .f64 wd) := I.out.cell 3; have cn : World.cell? _ ⟨w.heap.size, 1, none⟩ = some (.int .i64 n) := I.out.cell 1) | (go_at_call 30; refine (samelist_walk va vb n fa fb _ hn OA.out.lst OB.out.lst (rows_same RAH.out FF.out)).mono ?_; rintro e w4 ⟨rfl, b4⟩; have I := Lib.hid (Iv.afterB b4 I.out); have RW := Lib.hid (row_below b4 RW.out); clear b4))
  all_goals
    go_wp2_with fail
    go_loopw [64] (fun i wr => ∃ (k : Nat) (f' : Nat → Nat × Nat), k ≤ n ∧ i = .int .i64 k ∧ wr.rowIs g 40 n (cxv f') ∧ Iv w b c 4 n p wd wr (skp s (24 * n)) (skp s (24 * n))) (fun i _ => n - (intOf i).toNat)
    case atStart => exact ⟨0, fa, Nat.zero_le _, rfl, RW.out, I.out⟩
    case round =>
      obtain ⟨k, f', hk, rfl, hr, hI⟩ := hrel
      clear cw cn
      by_cases hkn : k < n
      · have hk64 : (k : Int) < n := by omega
        have cR := hr.cell hkn
        have fR := hr.frozen k
        have HR := Lib.hid hr
        have HI := Lib.hid hI
        clear hr hI
        go_wp2_with fail
        go_roundw
        case rel => exact ⟨k + 1, fun j => if j = k then (4617315517961601024, 4617315517961601024) else f' j, by omega, by go_num, (HR.out.set k _).congr (fun j hj => by by_cases h : j = k <;> simp [cxv, h]), Iv.afterG (one_set _ _) hgw HI.out⟩
        case measure => simp [intOf]; omega
      · obtain rfl : k = n := by omega
        go_wp2_with fail
        go_ret
        exact ⟨rfl, skp s (24 * k), ⟨hI.n, hI.r, skp_lt' _ _⟩, hI.two⟩
end Go.Proofs.Ythdpkmdkoldneaa
