import Derived.Test.YtgdkmakmdomdbaaPnG
set_option autoImplicit false
set_option linter.unusedVariables false
namespace Go.Proofs.Ytgdkmakmdomdbaa
open Go.RowKit Lk Pn
def TNH : FuncId → Array Value → Value → World → Prop := fun _ _ _ _ => False
structure TB (B : Bool) (f : FuncId) (args : Array Value) (u : Value) (w : World) : Prop where
  a : f = 46 → u = .bool B
theorem tb_a {a b : Job} {B : Bool} (hB : B = bef a b) (w : World) : Calls Try.prog 46 #[.agg #[.int .i64 a.due, .int .i64 a.rk, .int .i64 a.task], .agg #[.int .i64 b.due, .int .i64 b.rk, .int .i64 b.task]] w
    (fun e' w'' => ∃ u, e' = .returned u ∧ TB B 46 #[.agg #[.int .i64 a.due, .int .i64 a.rk, .int .i64 a.task], .agg #[.int .i64 b.due, .int .i64 b.rk, .int .i64 b.task]] u w'' ∧ Ext w w'') :=
  (bef_walk a b B hB w).mono fun e' w' ⟨he, hb⟩ => ⟨_, he, ⟨fun _ => rfl⟩, hb⟩
theorem only_set {w : World} {g o : Nat} {u : Value} : Only g w (w.setCell ⟨g, o, none⟩ u) := ⟨rfl, rfl, rfl, size_setCell _ _ _, fun k hk => Deep.blk_setCell_other _ _ _ _ hk⟩
theorem fr_set_eq {w w2 : World} {g o : Nat} {u : Value} (h : Below w.heap.size w w2) : Fr (· = g) w (w2.setCell ⟨g, o, none⟩ u) := ⟨h.os, h.tape, h.output, by rw [size_setCell]; exact h.size, fun k hk hn => (Deep.blk_setCell_other _ _ _ _ hn).trans (h.block k hk)⟩
theorem min_form (a b : Int) : (if b < a then b else a) = min a b := by split <;> omega
set_option maxHeartbeats 1000000 in
theorem f44_walk (i lb fb : Nat) (x : Ln) (v : Value) (fr : Int) (w : World) (A : LnA w lb (i * 6) x v) (hb : w.heap[fb]? = some (.cells #[.int .i64 fr] 2 (0, 0))) (h1 : fb ≠ lb) :
    Calls Try.prog 44 #[.int .i64 i, .pointer (some ⟨lb, i * 6, none⟩), .pointer (some ⟨fb, 0, none⟩)] w (fun e w' => e = .returned (.tuple #[]) ∧ w'.heap[fb]? = some (.cells #[.int .i64 (min fr x.nx)] 2 (0, 0)) ∧ Fr (· = fb) w w') := by
  have hbz : fb < w.heap.size := (Array.getElem?_eq_some_iff.1 hb).1
  have HB := Lib.hid hb
  have c3 := A.c3
  have lt := A.lt
  have b0 : w.cell? ⟨fb, 0, none⟩ = some (.int .i64 fr) := by simp [World.cell?, hb]
  generalize x.nx = nx at *
  obtain ⟨mn, hmn⟩ : ∃ mn, mn = min fr nx := ⟨_, rfl⟩
  have HM := Lib.hid hmn
  have mf : (if nx < fr then nx else fr) = mn := by rw [hmn]; exact min_form _ _
  clear A hb hmn
  go_enter Try.func44, Try.ntmps44
  go_wp2_with fail
  refine wp_region_G_tail 6 TNH (by kernel_rfl) (by kernel_rfl) ?_
  simp only [List.take, List.drop]
  repeat' (refine wpG_step' (fun K hA hK => ?_); go_simp; first | (refine bothG_value hA (v := ?_) (fun w' hw' => ?_) ?_; rotate_left; (· go_simp; rfl); (refine hK _ _ ?_; clear hK hA K)))
  refine wpG_nil ?_
  intro w4 hb4 hF
  have hb5 := (hb4.block fb hbz).trans HB.out
  have b0 : w4.cell? ⟨fb, 0, none⟩ = some (.int .i64 fr) := by simp [World.cell?, hb5]
  have f0 : w4.frozen? ⟨fb, 0, none⟩ = false := by simp [World.frozen?, hb5]
  have H4 := Lib.hid hb4
  have H5 := Lib.hid hb5
  clear hF hb4 hb5
  go_wp2_with fail
  go_end0
  refine ⟨rfl, ?_, fr_set_eq H4.out⟩
  rw [blk_setCell _ _ _ _ H5.out, ← HM.out]; rfl
structure RK (lb o : Nat) (ev lg rk nx : Int) (v : Value) (x : World) : Prop where
  r : RJ lb o ev lg rk nx x
  c4 : x.cell? ⟨lb, o + 4, none⟩ = some v
set_option maxHeartbeats 1000000 in
theorem f45_walk (i lb jb tb : Nat) (x : Ln) (v : Value) (j : Job) (to : Int) (w : World) (A : LnA w lb (i * 6) x v) (hw : Wt cY w v x.wt) (ok : OkL x) (hj : w.heap[jb]? = some (.cells (jbc j) 94 (0, 0))) (ht : w.heap[tb]? = some (.cells #[.int .i64 to] 2 (0, 0))) (h1 : tb ≠ lb) (h2 : tb ≠ jb) :
    Calls Try.prog 45 #[.int .i64 i, .pointer (some ⟨lb, i * 6, none⟩), .pointer (some ⟨jb, 0, none⟩), .pointer (some ⟨tb, 0, none⟩)] w (fun e w' => e = .returned (.tuple #[]) ∧ w'.heap[tb]? = some (.cells #[.int .i64 (tstep j to i x)] 2 (0, 0)) ∧ Fr (· = tb) w w') := by
  have htz : tb < w.heap.size := (Array.getElem?_eq_some_iff.1 ht).1
  have hjz : jb < w.heap.size := (Array.getElem?_eq_some_iff.1 hj).1
  have HT := Lib.hid ht
  obtain ⟨⟨ev, lg, rk⟩, nx, wt, lf⟩ := x
  obtain ⟨a, c, rfl, q1, q2, _⟩ := hw.form
  have c0 := A.c0
  have c2 := A.c2
  have c3 := A.c3
  have c4 := A.c4
  have lt := A.lt
  have ev1 := ok.ev1
  have ev2 := ok.ev2
  have nx0 := ok.nx0
  have nx1 := ok.nx1
  simp only at c0 c2 c3 c4 q1 ev1 ev2 nx0 nx1
  obtain ⟨bd, br, bt⟩ := j
  have b0 : w.cell? ⟨jb, 0, none⟩ = some (.int .i64 bd) := by simp [World.cell?, hj, jbc]
  have b1 : w.cell? ⟨jb, 1, none⟩ = some (.int .i64 br) := by simp [World.cell?, hj, jbc]
  have b2 : w.cell? ⟨jb, 2, none⟩ = some (.int .i64 bt) := by simp [World.cell?, hj, jbc]
  have t0 : w.cell? ⟨tb, 0, none⟩ = some (.int .i64 to) := by simp [World.cell?, ht]
  clear A hw ok hj ht
  cases wt with
  | cons r ws =>
    have c4 : w.cell? ⟨lb, i * 6 + 4, none⟩ = some (.slice a (ws.length + 1) c) := c4
    have hz : (((ws.length : Int) + 1) == 0) = false := by rw [beq_eq_false_iff_ne]; omega
    clear q1
    go_enter Try.func45, Try.ntmps45
    go_wp2_with fail
    go_quiet (fail)
    go_wp2_with fail
    go_end0
    exact ⟨rfl, by rw [show (w.drewN _).heap[tb]? = w.heap[tb]? from rfl, HT.out]; simp [tstep], Fr.of_below (below_drewN (Below.refl _ _) _)⟩
  | nil =>
    have c4 : w.cell? ⟨lb, i * 6 + 4, none⟩ = some (.slice a 0 c) := c4
    obtain ⟨B, hB⟩ : ∃ B, B = bef ⟨nx + ev, rk, i⟩ ⟨bd, br, bt⟩ := ⟨_, rfl⟩
    have HBF := Lib.hid hB
    have C := fun w => tb_a hB w
    have CC := Lib.hid C
    have wz : IntKind.i64.wrap (nx + ev) = nx + ev := IntWalk.i64_in _ (by omega)
    obtain ⟨mn, hmn⟩ : ∃ mn, mn = min to nx := ⟨_, rfl⟩
    have HM := Lib.hid hmn
    have mf : (if nx < to then nx else to) = mn := by rw [hmn]; exact min_form _ _
    clear hB q1 C hmn
    go_enter Try.func45, Try.ntmps45
    go_wp2_with fail
    refine wp_region_G (TB B) (by kernel_rfl) (by kernel_rfl) ?_
    iterate 25 (refine wpG_step' (fun K hA hK => ?_); go_simp; (refine bothG_value hA (v := ?_) (fun w' hw' => ?_) ?_; rotate_left; (· go_simp; rfl); (refine hK _ _ ?_; clear hK hA K)))
    refine wpG_step' (fun K hA hK => ?_); go_simp
    refine bothG_call (f := 46) (args := ?_) (fun w' => ?_) (fun w' _ => ?_) ?_
    rotate_left
    · go_simp; rfl
    · exact CC.out _
    · intro u xw hu
      obtain rfl := hu.a rfl
      clear hu
      refine hK _ _ ?_
      clear hK hA K
      refine wpG_step' (fun K hA hK => ?_); go_simp
      (refine bothG_value hA (v := ?_) (fun w' hw' => ?_) ?_; rotate_left; (· go_simp; rfl); (refine hK _ _ ?_; clear hK hA K))
      refine wpG_nil ?_
      intro w4 hb4 hF
      have c3 := (hb4.cell (p := ⟨lb, i * 6 + 3, none⟩) lt).trans c3
      have ht4 := (hb4.block tb htz).trans HT.out
      have t0 := (hb4.cell (p := ⟨tb, 0, none⟩) htz).trans t0
      have f0 : w4.frozen? ⟨tb, 0, none⟩ = false := by simp [World.frozen?, ht4]
      have lt : lb < w4.heap.size := Nat.lt_of_lt_of_le lt hb4.size
      have htz : tb < w4.heap.size := Nat.lt_of_lt_of_le htz hb4.size
      have H4 := Lib.hid hb4
      have T4 := Lib.hid ht4
      clear hF hb4 ht4 c0 c2 c4 b0 b1 b2 wz CC
      cases B with
      | false =>
        go_wp2_with fail
        go_end0
        exact ⟨rfl, by rw [T4.out]; simp [tstep, ← HBF.out], Fr.of_below H4.out⟩
      | true =>
        go_wp2_with fail
        refine wp_region_G_tail 6 TNH (by kernel_rfl) (by kernel_rfl) ?_
        simp only [List.take, List.drop]
        repeat' (refine wpG_step' (fun K hA hK => ?_); go_simp; first | (refine bothG_value hA (v := ?_) (fun w' hw' => ?_) ?_; rotate_left; (· go_simp; rfl); (refine hK _ _ ?_; clear hK hA K)))
        refine wpG_nil ?_
        intro w5 hb5 hF
        have ht5 := (hb5.block tb htz).trans T4.out
        have t0 : w5.cell? ⟨tb, 0, none⟩ = some (.int .i64 to) := by simp [World.cell?, ht5]
        have f0 : w5.frozen? ⟨tb, 0, none⟩ = false := by simp [World.frozen?, ht5]
        have H5 := Lib.hid (H4.out.trans hb5)
        have T5 := Lib.hid ht5
        clear hF hb5 ht5 c3 T4
        go_wp2_with fail
        go_end0
        refine ⟨rfl, ?_, fr_set_eq H5.out⟩
        rw [blk_setCell _ _ _ _ T5.out]
        simp [tstep, ← HBF.out, ← HM.out]
end Go.Proofs.Ytgdkmakmdomdbaa
