import Derived.Test.YtgdkmakmdomdbaaPnWk
set_option autoImplicit false
set_option linter.unusedVariables false
namespace Go.Proofs.Ytgdkmakmdomdbaa
open Go.RowKit Lk Pn
theorem wk_ts (w : World) : Ts (w.alloc (.cells #[.int .i64 4, .int .i64 1, .int .i64 0, .int .i64 6, .int .i64 2, .int .i64 0] 26)) (some ⟨w.heap.size, 0, none⟩) 2 2 [⟨4, 1, 0⟩, ⟨6, 2, 0⟩] := by
  have h := Deep.blk_alloc_new w (.cells #[.int .i64 4, .int .i64 1, .int .i64 0, .int .i64 6, .int .i64 2, .int .i64 0] 26)
  refine ⟨rfl, by omega, by omega, .inr ⟨w.heap.size, 0, rfl, by rw [al_size]; omega, fun j t ht => ?_⟩⟩
  match j, ht with
  | 0, ht => cases ht; exact ⟨blk_cell h 0, blk_cell h 1, blk_cell h 2⟩
  | 1, ht => cases ht; exact ⟨blk_cell h 3, blk_cell h 4, blk_cell h 5⟩
set_option maxRecDepth 100000 in
set_option maxHeartbeats 4000000 in
theorem wakes_walk (w : World) : Calls Try.prog 9 #[] w (fun e w' => e = .returned (.bool true) ∧ Below w.heap.size w w') := by
  have iv0 := inv_new wk_e
  go_enter Try.func9, Try.ntmps9
  go_wp2_with fail
  have bA : Below w.heap.size w (w.alloc (.cells #[.int .i64 4, .int .i64 1, .int .i64 0, .int .i64 6, .int .i64 2, .int .i64 0] 26)) := (Below.refl _ _).alloc (Nat.le_refl _) _
  refine (c_new w.heap.size (some ⟨w.heap.size, 0, none⟩) 2 2 [⟨4, 1, 0⟩, ⟨6, 2, 0⟩] _ (wk_ts w) (by rw [al_size]; omega) wk_e).mono ?_
  rintro e w1 ⟨p, S1, rfl, h1, _, b1⟩
  have B1 := Lib.hid (bA.trans (b1.mono (by rw [al_size]; omega)))
  have P1 := Lib.hid (show PS w.heap.size w1 S1 p W0 from h1)
  have I0 := Lib.hid (show Inv 1 W0 from iv0)
  clear bA b1 h1 iv0
  go_wp2_with fail
  refine (c_next w.heap.size 1 (by omega) (Nat.le_refl _) p S1 W0 w1 P1.out B1.out.size I0.out (by decide)).mono ?_
  rintro e w2 ⟨S2, rfl, h2, _, f2⟩
  rw [wk_a]
  simp only [slc]
  have B2 := Lib.hid (B1.out.trans (P1.out.frb f2 B1.out.size))
  have P2 := Lib.hid (show PS w.heap.size w2 S2 p W1 from h2)
  have I1 := Lib.hid (show Inv 1 W1 from inv_next (Nat.le_refl _) I0.out)
  clear h2 f2 P1 B1
  go_wp2_with fail
  have bA : Below w2.heap.size w2 (w2.alloc (.cells (slc ⟨0, 0, 1, false⟩) 42)) := (Below.refl _ _).alloc (Nat.le_refl _) _
  have s0 := Deep.blk_alloc_new w2 (.cells (slc ⟨0, 0, 1, false⟩) 42)
  have BA := Lib.hid (B2.out.trans (bA.mono B2.out.size))
  refine (c_until w.heap.size 1 (by omega) (Nat.le_refl _) p S2 W1 7 _ (P2.out.below bA) BA.out.size I1.out).mono ?_
  rintro e w3 ⟨v, S3, rfl, ow, h3, hs3, hn3, f3⟩
  rw [wk_l] at ow
  obtain ⟨g, cp, cur, rfl, _, hB, hg⟩ : ∃ g cp cur, v = .slice (some ⟨g, 0, none⟩) 3 cp ∧ 3 ≤ cp ∧ w3.heap[g]? = some (.cells cur 42 (0, 0)) ∧ cur.toList.take 12 = slv [⟨1, 1, 3, false⟩, ⟨0, 4, 5, false⟩, ⟨1, 6, 7, false⟩] := by
    rcases ow.2 with ⟨_, h⟩ | ⟨g, cp, cur, rfl, _, h1, h2, _, _, h3⟩
    · cases h
    · exact ⟨g, cp, cur, rfl, h2, h1, h3⟩
  obtain ⟨sb, hsb⟩ : ∃ sb, sb = w2.heap.size := ⟨_, rfl⟩
  have N3 := Lib.hid (show ¬ S3 sb ∧ ¬ S3 g from ⟨fun e => (hs3 _ e).elim (fun e => by have := P2.out.inS _ e; omega) (fun e => by rw [al_size] at e; omega), hn3 g rfl⟩)
  have s3 := (f3.block w2.heap.size (by rw [al_size]; omega) (fun e => by have := P2.out.inS _ e; omega)).trans s0
  rw [← hsb] at s3
  have SB3 := Lib.hid s3
  have cpm : cp ≤ 9223372036854775807 := by
    rcases ow.2 with ⟨h, _⟩ | ⟨_, _, _, h, _, _, _, h2, _⟩
    · cases h
    · cases h; unfold maxLen at h2; omega
  have B3 := Lib.hid (BA.out.trans ((P2.out.below bA).frb f3 BA.out.size))
  have P3 := Lib.hid (show PS w.heap.size w3 S3 p W2 from h3)
  have I2 := Lib.hid (show Inv 1 W2 from inv_until (Nat.le_refl _) I1.out)
  have G3 := Lib.hid (show ∃ cur, w3.heap[g]? = some (.cells cur 42 (0, 0)) ∧ cur.toList.take 12 = slv [⟨1, 1, 3, false⟩, ⟨0, 4, 5, false⟩, ⟨1, 6, 7, false⟩] from ⟨cur, hB, hg⟩)
  rw [← hsb]
  clear bA s0 BA ow h3 hs3 hn3 f3 s3 hB hg cur P2 B2 hsb
  go_wp2_with fail
  refine (c_load w.heap.size 1 (by omega) p S3 W2 w3 P3.out I2.out).mono ?_
  rintro e w4 ⟨rfl, b4⟩
  rw [wk_d]
  have P4 := Lib.hid (P3.out.below b4)
  have B4 := Lib.hid (B3.out.trans (b4.mono B3.out.size))
  have SB4 := Lib.hid ((b4.block sb (blk_lt SB3.out)).trans SB3.out)
  have G4 := Lib.hid (show ∃ cur, w4.heap[g]? = some (.cells cur 42 (0, 0)) ∧ cur.toList.take 12 = slv [⟨1, 1, 3, false⟩, ⟨0, 4, 5, false⟩, ⟨1, 6, 7, false⟩] from G3.out.imp fun cur h => ⟨(b4.block g (blk_lt h.1)).trans h.1, h.2⟩)
  clear b4 P3 B3 SB3 G3
  go_wp2_with fail
  refine (c_set w.heap.size 1 (by omega) p S3 W2 0 ⟨9, 2, 0⟩ w4 P4.out B4.out.size I2.out).mono ?_
  rintro e w5 ⟨S5, rfl, h5, _, f5⟩
  rw [wk_s]
  have P5 := Lib.hid (show PS w.heap.size w5 S5 p W3 from h5)
  have B5 := Lib.hid (B4.out.trans (P4.out.frb f5 B4.out.size))
  have sb5 := (f5.block sb (blk_lt SB4.out) N3.out.1).trans SB4.out
  obtain ⟨cur, hB, hg⟩ := G4.out
  have g5 := (f5.block g (blk_lt hB) N3.out.2).trans hB
  have get : ∀ j u, j < 12 → (slv [⟨1, 1, 3, false⟩, ⟨0, 4, 5, false⟩, ⟨1, 6, 7, false⟩])[j]? = some u → w5.cell? ⟨g, j, none⟩ = some u := fun j u hj hu => by
    rw [blk_cell g5 j, ← hu, ← hg, List.getElem?_take, if_pos hj]; simp
  have c0 := get 0 (.int .i64 1) (by omega) rfl
  have c1 := get 1 (.int .i64 1) (by omega) rfl
  have c2 := get 2 (.int .i64 3) (by omega) rfl
  have c3 := get 3 (.bool false) (by omega) rfl
  have c8 := get 8 (.int .i64 1) (by omega) rfl
  have c9 := get 9 (.int .i64 6) (by omega) rfl
  have c10 := get 10 (.int .i64 7) (by omega) rfl
  have c11 := get 11 (.bool false) (by omega) rfl
  have d0 := blk_cell sb5 0
  have d1 := blk_cell sb5 1
  have d2 := blk_cell sb5 2
  have d3 := blk_cell sb5 3
  simp only [slc] at d0 d1 d2 d3
  have I3 := Lib.hid (show Inv 2 W3 from inv_set (Nat.le_refl _) I2.out)
  clear h5 f5 sb5 hB hg g5 get P4 B4 SB4 G4 cur
  go_wp2_with fail
  refine (c_now w.heap.size p S5 W3 w5 P5.out).mono ?_
  rintro e w6 ⟨rfl, rfl⟩
  rw [wk_m]
  clear c0 c1 c2 c3 c8 c9 c10 c11 d0 d1 d2 d3
  go_wp2_with fail
  refine (c_set w.heap.size 2 (by omega) p S5 W3 2 ⟨1, 1, 0⟩ _ P5.out B5.out.size I3.out).mono ?_
  rintro e w7 ⟨S7, rfl, h7, _, f7⟩
  rw [wk_t]
  have B7 := Lib.hid (B5.out.trans (P5.out.frb f7 B5.out.size))
  clear h7 f7
  go_wp2_with fail
  go_ret
  exact ⟨rfl, B7.out⟩
end Go.Proofs.Ytgdkmakmdomdbaa
