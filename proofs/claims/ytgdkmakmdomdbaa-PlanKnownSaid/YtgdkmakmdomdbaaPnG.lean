import Derived.Test.YtgdkmakmdomdbaaPnF
import Derived.Test.YtgdkmakmdomdbaaFlO
set_option autoImplicit false
set_option linter.unusedVariables false
namespace Go.Proofs.Ytgdkmakmdomdbaa
open Go.RowKit Lk Pn
def jbc (j : Job) : Array Value := #[.int .i64 j.due, .int .i64 j.rk, .int .i64 j.task]
theorem jb_put (a b : Job) : putAll (jbc a) 0 (jbc b).toList = jbc b := putAll_full rfl
theorem jbc_one (j : Job) : (jbc j).all (·.oneCell') = true := by simp [jbc, Value.oneCell']
theorem only_fr {g : Nat} {w w' : World} (h : Only g w w') : Fr (· = g) w w' := ⟨h.os, h.tape, h.output, Nat.le_of_eq h.size.symm, fun k _ hn => h.block k hn⟩
set_option maxHeartbeats 2000000 in
/-- how the first job of a line is held against the best so far -/
theorem f1_walk (i lb bb : Nat) (x : Ln) (v : Value) (b : Job) (w : World) (A : LnA w lb (i * 6) x v) (hw : Wt cY w v x.wt) (ok : OkL x) (hb : w.heap[bb]? = some (.cells (jbc b) 94 (0, 0))) (h1 : bb ≠ lb) (h2 : v.ownBlock ≠ some bb) :
    Calls Try.prog 49 #[.int .i64 i, .pointer (some ⟨lb, i * 6, none⟩), .pointer (some ⟨bb, 0, none⟩)] w (fun e w' => e = .returned (.tuple #[]) ∧ w'.heap[bb]? = some (.cells (jbc (bstep b i x)) 94 (0, 0)) ∧ Fr (· = bb) w w') := by
  obtain ⟨t, nx, wt, lf⟩ := x
  have hbz : bb < w.heap.size := (Array.getElem?_eq_some_iff.1 hb).1
  have HB := Lib.hid hb
  obtain ⟨a, c, rfl, q1, q2, _⟩ := hw.form
  have c4 := A.c4
  simp only at c4 q1
  cases wt with
  | nil =>
    have c4 : w.cell? ⟨lb, i * 6 + 4, none⟩ = some (.slice a 0 c) := c4
    clear A hw ok hb h1 h2
    go_enter Try.func49, Try.ntmps49
    go_wp2_with fail
    refine bodyPost_ret (v := .tuple #[]) (by simp [results, Try.results49, go_sem]) rfl ?_
    exact ⟨rfl, HB.out, Fr.refl _ _⟩
  | cons r ws =>
    obtain ⟨⟨rev, rlg, rrk⟩, rfi, rct⟩ := r
    obtain ⟨bd, br, bt⟩ := b
    obtain ⟨g, off, c', cur, e1, B⟩ := hw.some (by simp)
    simp only at e1 B
    cases e1
    have ro := ok.rn ⟨⟨rev, rlg, rrk⟩, rfi, rct⟩ (by simp)
    have nx1 := ok.nx1
    simp only at ro nx1
    obtain ⟨r1, r2, r3, r4, r5, r6, r7⟩ := ro
    have r8 : rfi ≤ 2305843009213693952 := by
      have : 0 ≤ rct * rev := Int.mul_nonneg (by omega) (by omega)
      omega
    have a0 := B.cell (j := 0) rfl (q := 0) (by decide)
    have a1 := B.cell (j := 0) rfl (q := 1) (by decide)
    have a2 := B.cell (j := 0) rfl (q := 2) (by decide)
    have a3 := B.cell (j := 0) rfl (q := 3) (by decide)
    have a4 := B.cell (j := 0) rfl (q := 4) (by decide)
    simp only [cY, List.getElem?_cons_zero, List.getElem?_cons_succ, Nat.zero_mul, Nat.zero_add, Nat.add_zero] at a0 a1 a2 a3 a4
    have glt := B.lt
    have b0 : w.cell? ⟨bb, 0, none⟩ = some (.int .i64 bd) := by simp [World.cell?, hb, jbc]
    have b1 : w.cell? ⟨bb, 1, none⟩ = some (.int .i64 br) := by simp [World.cell?, hb, jbc]
    have b2 : w.cell? ⟨bb, 2, none⟩ = some (.int .i64 bt) := by simp [World.cell?, hb, jbc]
    have c4 : w.cell? ⟨lb, i * 6 + 4, none⟩ = some (.slice (some ⟨g, off, none⟩) (ws.length + 1) c) := c4
    have AL : Hid (∀ o1 o2, ((w.alloc o1).alloc o2).heap[bb]? = some (.cells (jbc ⟨bd, br, bt⟩) 94 (0, 0))) := Lib.hid fun o1 o2 => ((Below.heap_alloc _ _ _ (by rw [al_size]; omega)).trans (Below.heap_alloc _ _ _ hbz)).trans HB.out
    have ngb1 : g ≠ bb := fun e => h2 (by rw [e]; rfl)
    clear A hw ok hb h2 B r3 r4 r6 r7
    by_cases ht : bt < 0
    · go_enter Try.func49, Try.ntmps49
      go_wp2_with ((refine wpList_store_at rfl (ty := 94) (x := .tmp 2) (y := .tmp 38) rfl (g := bb) (j := 0) (cells := jbc ⟨rfi + rev, rrk, i⟩) rfl rfl (t := 94) (old := jbc ⟨bd, br, bt⟩) (AL.out _ _) (by kernel_rfl) (Nat.le_refl _) (jbc_one _) ?_); intro w4 hg4 on4)
      have HG4 := Lib.hid hg4
      have ON4 := Lib.hid on4
      clear hg4 on4
      go_wp2_with fail
      go_end0
      refine ⟨rfl, ?_, ?_⟩
      · rw [HG4.out, jb_put]; simp [bstep, ht]
      · exact Fr.trans' (Fr.of_below (((Below.refl _ w).alloc (Nat.le_refl _) _).alloc (by rw [al_size]; omega) _)) (only_fr ON4.out)
    · have ht0 : decide (bt < 0) = false := decide_eq_false ht
      obtain ⟨B, hB⟩ : ∃ B, B = bef ⟨rfi + rev, rrk, i⟩ ⟨bd, br, bt⟩ := ⟨_, rfl⟩
      have HBF := Lib.hid hB
      have C := fun w => bef_walk ⟨rfi + rev, rrk, i⟩ ⟨bd, br, bt⟩ B hB w
      simp only at C
      clear hB
      go_enter Try.func49, Try.ntmps49
      cases B with
      | true =>
        go_wp2_with fail
        refine (C _).mono ?_
        rintro e w3 ⟨rfl, b3⟩
        have b30 := b3
        have A3 := Lib.hid ((b3.block bb (by rw [al_size, al_size]; omega)).trans (AL.out _ _))
        have B3 := Lib.hid ((((Below.refl _ w).alloc (Nat.le_refl _) _).alloc (by rw [al_size]; omega) _).trans (b3.mono (by rw [al_size, al_size]; omega)))
        have d0 := b3.cell (p := ⟨w.heap.size + 1, 0, none⟩) (by simp)
        have d1 := b3.cell (p := ⟨w.heap.size + 1, 1, none⟩) (by simp)
        have d2 := b3.cell (p := ⟨w.heap.size + 1, 2, none⟩) (by simp)
        simp at d0 d1 d2
        clear b3 b30 C a0 a1 a2 a3 a4 b0 b1 b2
        go_wp2_with ((refine wpList_store_at rfl (ty := 94) (x := .tmp 2) (y := .tmp 38) rfl (g := bb) (j := 0) (cells := jbc ⟨rfi + rev, rrk, i⟩) rfl rfl (t := 94) (old := jbc ⟨bd, br, bt⟩) (A3.out) (by kernel_rfl) (Nat.le_refl _) (jbc_one _) ?_); intro w4 hg4 on4)
        have HG4 := Lib.hid hg4
        have ON4 := Lib.hid on4
        clear hg4 on4
        go_wp2_with fail
        go_end0
        refine ⟨rfl, ?_, ?_⟩
        · rw [HG4.out, jb_put]; simp [bstep, ← HBF.out]
        · exact Fr.trans' (Fr.of_below B3.out) (only_fr ON4.out)
      | false =>
        go_wp2_with fail
        refine (C _).mono ?_
        rintro e w3 ⟨rfl, b3⟩
        have A3 := Lib.hid ((b3.block bb (by rw [al_size, al_size]; omega)).trans (AL.out _ _))
        have B3 := Lib.hid ((((Below.refl _ w).alloc (Nat.le_refl _) _).alloc (by rw [al_size]; omega) _).trans (b3.mono (by rw [al_size, al_size]; omega)))
        clear b3 C a0 a1 a2 a3 a4 b0 b1 b2
        go_wp2_with fail
        go_end0
        refine ⟨rfl, ?_, Fr.of_below B3.out⟩
        rw [A3.out]; simp [bstep, ← HBF.out, ht0]
/-- what holds of the best job among the first k lines -/
structure FI (S : Nat → Prop) (p lb cap : Nat) (vs : List Value) (st : Pl) (w0 : World) (bb k : Nat) (x : World) : Prop where
  pa : PAx cY x S p lb cap vs st
  hb : x.heap[bb]? = some (.cells (jbc (bestK st.l k)) 94 (0, 0))
  fr : Fr (· = bb) w0 x
set_option maxHeartbeats 1000000 in
theorem first_walk (p lb cap : Nat) (vs : List Value) (S : Nat → Prop) (st : Pl) (w : World) (h : PAx cY w S p lb cap vs st) (hok : ∀ x ∈ st.l, OkL x) :
    Calls Try.prog 42 #[.pointer (some ⟨p, 0, none⟩)] w (fun e w' => e = .returned (.agg (jbc (best st.l))) ∧ Below w.heap.size w w') := by
  have hcf : ∀ (args : Array Value) (w : World), (callFunc 49 args).run Try.prog w = .ok (.enter 49 args) w := fun _ _ => by kernel_rfl
  have hmf : ∀ (fn : Fn) (first cap : Array Value) (w : World), (Instr.makeFunc fn first cap).run Try.prog w = .ok (.func fn first cap) w := fun _ _ _ _ => rfl
  have H := Lib.hid h
  have OK := Lib.hid hok
  have CF := Lib.hid hcf
  clear h hok hcf
  have b0 : Below w.heap.size w ((w.alloc (.cells #[.int .i64 0, .int .i64 0, .int .i64 0] 94)).alloc (.cells #[.int .i64 0, .int .i64 0, .int .i64 (-1)] 94)) := ((Below.refl _ w).alloc (Nat.le_refl _) _).alloc (by rw [al_size]; omega) _
  have I0 : FI S p lb cap vs st ((w.alloc (.cells #[.int .i64 0, .int .i64 0, .int .i64 0] 94)).alloc (.cells #[.int .i64 0, .int .i64 0, .int .i64 (-1)] 94)) (w.heap.size + 1) 0 ((w.alloc (.cells #[.int .i64 0, .int .i64 0, .int .i64 0] 94)).alloc (.cells #[.int .i64 0, .int .i64 0, .int .i64 (-1)] 94)) := by
    refine ⟨H.out.below b0, ?_, Fr.refl _ _⟩
    have := Deep.blk_alloc_new (w.alloc (.cells #[.int .i64 0, .int .i64 0, .int .i64 0] 94)) (.cells #[.int .i64 0, .int .i64 0, .int .i64 (-1)] 94)
    rw [al_size] at this
    exact this
  have E := each_walk 49 #[.pointer (some ⟨w.heap.size + 1, 0, none⟩)] p lb st.l.length cap (FI S p lb cap vs st ((w.alloc (.cells #[.int .i64 0, .int .i64 0, .int .i64 0] 94)).alloc (.cells #[.int .i64 0, .int .i64 0, .int .i64 (-1)] 94)) (w.heap.size + 1)) _ H.out.cap1 H.out.cap2 CF.out (fun k x h => h.pa.p0) I0 (fun k x hk hi => by
    have hx : st.l[k]? = some st.l[k] := List.getElem?_eq_getElem hk
    obtain ⟨v, hv, A, W⟩ := hi.pa.ln hx
    have ns : ¬ S (w.heap.size + 1) := fun e => by have := H.out.inS _ e; omega
    refine (f1_walk k lb (w.heap.size + 1) _ v _ x A W (OK.out _ (List.getElem_mem hk)) hi.hb (fun e => ns (e ▸ hi.pa.slb)) (fun e => ns (hi.pa.sv k v _ hv e).1)).mono ?_
    rintro e x' ⟨rfl, hb', fr⟩
    refine ⟨rfl, hi.pa.keep (fun j hj => fr.block j (hi.pa.inS j hj) (fun e => ns (e ▸ hj))) (fun _ h => h) (fun j hj => Nat.lt_of_lt_of_le (hi.pa.inS j hj) fr.size), ?_, hi.fr.trans' fr⟩
    rw [hb']
    simp only [bestK, hx])
  have E1 := Lib.hid E
  have B0 := Lib.hid b0
  clear E b0 I0
  go_enter Try.func42, Try.ntmps42
  go_wp2_with fail
  refine E1.out.mono ?_
  rintro e w2 ⟨rfl, hi⟩
  obtain ⟨j, hj⟩ : ∃ j, j = best st.l := ⟨_, rfl⟩
  have hb := hi.hb
  rw [show bestK st.l st.l.length = best st.l from rfl, ← hj] at hb
  have b2 := B0.out.trans ((hi.fr.below (B := w.heap.size) (by rw [al_size, al_size]; omega) (fun k e => by omega)))
  have hr := (hi.fr.block w.heap.size (by rw [al_size, al_size]; omega) (by omega)).trans ((Below.heap_alloc _ _ _ (by rw [al_size]; omega)).trans (Deep.blk_alloc_new w _))
  have HJ := Lib.hid hj
  obtain ⟨bd, br, bt⟩ := j
  have c0 : w2.cell? ⟨w.heap.size + 1, 0, none⟩ = some (.int .i64 bd) := by simp [World.cell?, hb, jbc]
  have c1 : w2.cell? ⟨w.heap.size + 1, 1, none⟩ = some (.int .i64 br) := by simp [World.cell?, hb, jbc]
  have c2 : w2.cell? ⟨w.heap.size + 1, 2, none⟩ = some (.int .i64 bt) := by simp [World.cell?, hb, jbc]
  have B2 := Lib.hid b2
  have HR := Lib.hid hr
  clear hi hj hb b2 hr E1 B0 hmf
  go_wp2_with (refine wpList_store_at rfl (ty := 94) (x := .tmp 2) (y := .tmp 8) rfl (g := w.heap.size) (j := 0) (cells := jbc ⟨bd, br, bt⟩) rfl rfl (t := 94) (old := jbc ⟨0, 0, 0⟩) HR.out (by kernel_rfl) (Nat.le_refl _) (jbc_one _) ?_; intro w4 hg4 on4)
  rw [jb_put] at hg4
  have d0 : w4.cell? ⟨w.heap.size, 0, none⟩ = some (.int .i64 bd) := by simp [World.cell?, hg4, jbc]
  have d1 : w4.cell? ⟨w.heap.size, 1, none⟩ = some (.int .i64 br) := by simp [World.cell?, hg4, jbc]
  have d2 : w4.cell? ⟨w.heap.size, 2, none⟩ = some (.int .i64 bt) := by simp [World.cell?, hg4, jbc]
  have B4 := Lib.hid (B2.out.trans (on4.below (Nat.le_refl _)))
  clear hg4 on4 c0 c1 c2 HR
  go_wp2_with fail
  refine bodyPost_ret (v := .agg (jbc ⟨bd, br, bt⟩)) (by simp [results, Try.results42, go_sem, d0, d1, d2]; rfl) rfl ⟨?_, B4.out⟩
  rw [HJ.out]
end Go.Proofs.Ytgdkmakmdomdbaa
