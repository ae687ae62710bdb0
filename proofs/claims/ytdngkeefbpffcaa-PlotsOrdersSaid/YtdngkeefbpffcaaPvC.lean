import Derived.Test.YtdngkeefbpffcaaPwA
import Derived.Test.YtdngkeefbpffcaaPsU
import Derived.Test.YtdngkeefbpffcaaPvB
set_option autoImplicit false
set_option linter.unusedVariables false
namespace Go.Proofs.Ytdngkeefbpffcaa
open Go.RowKit Lk Pl
theorem ordP_eq (p q : Pt) : ordP p q = if cmpN (powF p.power) (powF q.power) = 0 then if cmpN (plF p.range) (plF q.range) = 0 then if cmpN (plF p.speed) (plF q.speed) = 0 then if cmpN (plF p.bearing) (plF q.bearing) = 0 then cmpN (plF p.time) (plF q.time) else cmpN (plF p.bearing) (plF q.bearing) else cmpN (plF p.speed) (plF q.speed) else cmpN (plF p.range) (plF q.range) else cmpN (powF p.power) (powF q.power) := by
  unfold ordP key
  simp only [cmpL]
  split
  · split
    · split
      · split
        · split
          · rename_i h; exact h.symm
          · rfl
        · rfl
      · rfl
    · rfl
  · rfl
set_option maxRecDepth 100000 in
set_option maxHeartbeats 1000000 in
theorem ahead_walk (p q : Pt) (hp : PtLt p) (hq : PtLt q) (w : World) : Calls Try.prog 41 #[pv p, pv q] w (fun e w' => e = .returned (.int .i64 (ordP p q)) ∧ Below w.heap.size w w') := by
  have S0 := Lib.hid (rpower_walk p.power q.power hp.power hq.power)
  have S1 := Lib.hid (rplace_walk p.range q.range hp.range hq.range)
  have S2 := Lib.hid (rplace_walk p.speed q.speed hp.speed hq.speed)
  have S3 := Lib.hid (rplace_walk p.bearing q.bearing hp.bearing hq.bearing)
  have S4 := Lib.hid (rplace_walk p.time q.time hp.time hq.time)
  rw [ordP_eq]
  clear hp hq
  generalize cmpN (powF p.power) (powF q.power) = c0 at S0 ⊢
  generalize cmpN (plF p.range) (plF q.range) = c1 at S1 ⊢
  generalize cmpN (plF p.speed) (plF q.speed) = c2 at S2 ⊢
  generalize cmpN (plF p.bearing) (plF q.bearing) = c3 at S3 ⊢
  generalize cmpN (plF p.time) (plF q.time) = c4 at S4 ⊢
  obtain ⟨p0, p1, p2, p3, p4⟩ := p
  obtain ⟨q0, q1, q2, q3, q4⟩ := q
  simp only at S0 S1 S2 S3 S4
  unfold pv
  by_cases h0 : c0 = 0
  · subst h0
    rw [if_pos rfl]
    by_cases h1 : c1 = 0
    · subst h1
      rw [if_pos rfl]
      by_cases h2 : c2 = 0
      · subst h2
        rw [if_pos rfl]
        by_cases h3 : c3 = 0
        · subst h3
          rw [if_pos rfl]
          go_enter Try.func41, Try.ntmps41
          go_wp2_with fail
          refine (S0.out _).mono ?_
          rintro e w1 ⟨rfl, rfl⟩
          go_wp2_with fail
          refine (S1.out _).mono ?_
          rintro e w1 ⟨rfl, rfl⟩
          go_wp2_with fail
          refine (S2.out _).mono ?_
          rintro e w1 ⟨rfl, rfl⟩
          go_wp2_with fail
          refine (S3.out _).mono ?_
          rintro e w1 ⟨rfl, rfl⟩
          go_wp2_with fail
          refine (S4.out _).mono ?_
          rintro e w1 ⟨rfl, rfl⟩
          go_wp2_with fail
          go_ret
          exact ⟨rfl, by (repeat' (first | exact Below.refl _ _ | refine below_drewN ?_ _ | refine Below.setCell ?_ (by first | exact Nat.le_refl _ | (simp; done) | (simp; omega)) _ | refine Below.alloc ?_ (by first | exact Nat.le_refl _ | (simp; done) | (simp; omega)) _))⟩
        · have e3 : (c3 == 0) = false := beq_eq_false_iff_ne.2 h3
          rw [if_neg h3]
          go_enter Try.func41, Try.ntmps41
          go_wp2_with fail
          refine (S0.out _).mono ?_
          rintro e w1 ⟨rfl, rfl⟩
          go_wp2_with fail
          refine (S1.out _).mono ?_
          rintro e w1 ⟨rfl, rfl⟩
          go_wp2_with fail
          refine (S2.out _).mono ?_
          rintro e w1 ⟨rfl, rfl⟩
          go_wp2_with fail
          refine (S3.out _).mono ?_
          rintro e w1 ⟨rfl, rfl⟩
          go_wp2_with fail
          go_ret
          exact ⟨rfl, by (repeat' (first | exact Below.refl _ _ | refine below_drewN ?_ _ | refine Below.setCell ?_ (by first | exact Nat.le_refl _ | (simp; done) | (simp; omega)) _ | refine Below.alloc ?_ (by first | exact Nat.le_refl _ | (simp; done) | (simp; omega)) _))⟩
      · have e2 : (c2 == 0) = false := beq_eq_false_iff_ne.2 h2
        rw [if_neg h2]
        go_enter Try.func41, Try.ntmps41
        go_wp2_with fail
        refine (S0.out _).mono ?_
        rintro e w1 ⟨rfl, rfl⟩
        go_wp2_with fail
        refine (S1.out _).mono ?_
        rintro e w1 ⟨rfl, rfl⟩
        go_wp2_with fail
        refine (S2.out _).mono ?_
        rintro e w1 ⟨rfl, rfl⟩
        go_wp2_with fail
        go_ret
        exact ⟨rfl, by (repeat' (first | exact Below.refl _ _ | refine below_drewN ?_ _ | refine Below.setCell ?_ (by first | exact Nat.le_refl _ | (simp; done) | (simp; omega)) _ | refine Below.alloc ?_ (by first | exact Nat.le_refl _ | (simp; done) | (simp; omega)) _))⟩
    · have e1 : (c1 == 0) = false := beq_eq_false_iff_ne.2 h1
      rw [if_neg h1]
      go_enter Try.func41, Try.ntmps41
      go_wp2_with fail
      refine (S0.out _).mono ?_
      rintro e w1 ⟨rfl, rfl⟩
      go_wp2_with fail
      refine (S1.out _).mono ?_
      rintro e w1 ⟨rfl, rfl⟩
      go_wp2_with fail
      go_ret
      exact ⟨rfl, by (repeat' (first | exact Below.refl _ _ | refine below_drewN ?_ _ | refine Below.setCell ?_ (by first | exact Nat.le_refl _ | (simp; done) | (simp; omega)) _ | refine Below.alloc ?_ (by first | exact Nat.le_refl _ | (simp; done) | (simp; omega)) _))⟩
  · have e0 : (c0 == 0) = false := beq_eq_false_iff_ne.2 h0
    rw [if_neg h0]
    go_enter Try.func41, Try.ntmps41
    go_wp2_with fail
    refine (S0.out _).mono ?_
    rintro e w1 ⟨rfl, rfl⟩
    go_wp2_with fail
    go_ret
    exact ⟨rfl, by (repeat' (first | exact Below.refl _ _ | refine below_drewN ?_ _ | refine Below.setCell ?_ (by first | exact Nat.le_refl _ | (simp; done) | (simp; omega)) _ | refine Below.alloc ?_ (by first | exact Nat.le_refl _ | (simp; done) | (simp; omega)) _))⟩
end Go.Proofs.Ytdngkeefbpffcaa

set_option autoImplicit false
set_option linter.unusedVariables false
namespace Go.Proofs.Ytdngkeefbpffcaa
open Go.RowKit Lk Pl
/-! rows of plots of one's own, read as plots in memory -/
theorem plv_get {L : List Pt} {j : Nat} {a : Pt} (h : L[j]? = some a) {q : Nat} {u : Value} (hu : (ptv a)[q]? = some u) : (plv L)[j * 5 + q]? = some u := by
  induction L generalizing j with
  | nil => simp at h
  | cons b L ih =>
    have e : plv (b :: L) = ptv b ++ plv L := by simp [plv]
    rw [e]
    have hq : q < 5 := by have := (List.getElem?_eq_some_iff.1 hu).1; simpa [ptv] using this
    cases j with
    | zero =>
      simp only [List.getElem?_cons_zero, Option.some.injEq] at h
      subst h
      rw [List.getElem?_append_left (by simp [ptv]; omega), ← hu]; simp
    | succ j =>
      rw [List.getElem?_cons_succ] at h
      rw [List.getElem?_append_right (by simp [ptv]; omega), ← ih h]
      congr 1
      simp [ptv]; omega
theorem sp_own {w : World} {B n : Nat} {v : Value} {L : List Pt} (h : w.ownsRow B 28 5 v n (plv L)) (lt : ∀ p ∈ L, PtLt p) : ∃ a cap, v = .slice a n cap ∧ Sp w a n cap L := by
  have hl := h.1
  rw [plv_len] at hl
  rcases h.2 with ⟨rfl, h0⟩ | ⟨g, cap, cur, rfl, hB, hb, h1, h2, _, h3⟩
  · subst h0; exact ⟨none, 0, rfl, by omega, Nat.le_refl _, by omega, lt, .inl rfl, fun _ => rfl⟩
  · refine ⟨_, cap, rfl, by omega, h1, by unfold maxLen at h2; omega, lt, .inr ⟨g, 0, rfl, (Array.getElem?_eq_some_iff.1 hb).1, fun j hj => ?_⟩, fun h => by cases h⟩
    have get : ∀ q u, q < 5 → (ptv L[j])[q]? = some u → w.cell? ⟨g, 0 + j * 5 + q, none⟩ = some u := fun q u hq hu => by
      have := plv_get (List.getElem?_eq_getElem hj) hu
      rw [← h3, List.getElem?_take, if_pos (by omega)] at this
      rw [cell_of_heap hb, ← this]; simp
    exact ⟨get 0 _ (by omega) rfl, get 1 _ (by omega) rfl, get 2 _ (by omega) rfl, get 3 _ (by omega) rfl, get 4 _ (by omega) rfl⟩
theorem ms_lt {l L : List Pt} {T : List (Nat × List Nat)} (h : Ms l L T) (hl : ∀ p ∈ l, PtLt p) : ∀ p ∈ L, PtLt p := fun p hp => by
  obtain ⟨k, hk⟩ := List.mem_iff_getElem?.1 hp
  have kl := (List.getElem?_eq_some_iff.1 hk).1
  obtain ⟨x, hx, _, hx2⟩ := h.2 k p _ hk (List.getElem?_eq_getElem (by rw [← h.1]; exact kl))
  have gl : PtLt (l.getD (T[k]'(by rw [← h.1]; exact kl)).1 pt0) := by
    rw [List.getD_eq_getElem?_getD]
    cases e : l[(T[k]'(by rw [← h.1]; exact kl)).1]? with
    | none => exact ⟨by decide, by decide, by decide, by decide, by decide⟩
    | some q => exact hl _ (List.mem_of_getElem? e)
  rw [hx]
  exact ⟨gl.range, gl.speed, hx2, gl.bearing, gl.time⟩
/-- where no two are near each is told as it is -/
theorem ms_apart {l L : List Pt} {m s n : Nat} (h : Ms l L (mergeL l m s n (ordL (ltI l) n))) (ap : Ap2 l m s n 0) {k x : Nat} {p q : Pt} (hx : (ordL (ltI l) n)[k]? = some x) (hp : L[k]? = some p) (hq : l[x]? = some q) :
    Is p.range q.range ∧ Is p.speed q.speed ∧ Is p.power q.power ∧ Is p.bearing q.bearing ∧ Is p.time q.time := by
  rw [ap_merge ap] at h
  obtain ⟨y, hy, hz, _⟩ := h.2 k p (x, [pw l x]) hp (by rw [List.getElem?_map, hx]; rfl)
  have e : l.getD x pt0 = q := by rw [List.getD_eq_getElem?_getD, hq]; rfl
  simp only [e] at hy hz
  have e2 : sumP [pw l x] = q.power := by unfold pw; rw [e]; rfl
  rw [hy]
  refine ⟨Is.refl _, Is.refl _, ?_, Is.refl _, Is.refl _⟩
  rw [e2] at hz; exact hz
end Go.Proofs.Ytdngkeefbpffcaa

set_option autoImplicit false
set_option linter.unusedVariables false
namespace Pl
open Lk
/-- which places were had -/
def hadL (O : List Nat) (k n : Nat) : List Nat := (List.range n).map fun x => if x ∈ O.take k then 1 else 0
theorem had_len (O : List Nat) (k n : Nat) : (hadL O k n).length = n := by simp [hadL]
theorem had_zero (O : List Nat) (n : Nat) : hadL O 0 n = List.replicate n 0 := by
  unfold hadL
  refine List.ext_getElem (by simp) fun i h1 h2 => by simp
theorem had_get {O : List Nat} {k n x : Nat} (h : x < n) : (hadL O k n)[x]? = some (if x ∈ O.take k then 1 else 0) := by
  unfold hadL
  rw [List.getElem?_map, List.getElem?_range h]; rfl
theorem had_set {O : List Nat} {k n x : Nat} (h : O[k]? = some x) : (hadL O k n).set x 1 = hadL O (k + 1) n := by
  refine List.ext_getElem? fun i => ?_
  by_cases hi : i < n
  · rw [had_get hi, List.take_add_one, h]
    by_cases e : x = i
    · subst e
      rw [List.getElem?_set_self (by rw [had_len]; exact hi)]
      simp
    · rw [List.getElem?_set_ne e, had_get hi]
      have : i ≠ x := fun q => e q.symm
      simp [this]
  · rw [List.getElem?_eq_none (by rw [List.length_set, had_len]; omega), List.getElem?_eq_none (by rw [had_len]; omega)]
end Pl
namespace Go.Proofs.Ytdngkeefbpffcaa
open Go.RowKit Lk Pl
theorem ord_get {l : List Pt} {n k x : Nat} (h : (ordL (ltI l) n)[k]? = some x) : gd (ordL (ltI l) n) k = x := by unfold gd; rw [List.getD_eq_getElem?_getD, h]; rfl
theorem ord_at (l : List Pt) {n k : Nat} (hk : k < n) : ∃ x, (ordL (ltI l) n)[k]? = some x ∧ x < n := by
  obtain ⟨h1, h2, _⟩ := ord_ok l n
  refine ⟨_, List.getElem?_eq_getElem (by rw [h1]; exact hk), h2 _ (List.getElem_mem _)⟩
theorem had_at {l : List Pt} {n k x : Nat} (h : (ordL (ltI l) n)[k]? = some x) (hx : x < n) (hk : k < n) : (hadL (ordL (ltI l) n) k n)[x]? = some 0 := by
  rw [had_get hx, if_neg]
  intro hm
  obtain ⟨j, hj⟩ := List.mem_iff_getElem?.1 hm
  rw [List.getElem?_take] at hj
  split at hj
  · exact ord_inj l n (i := j) (j := k) ‹_› hk (by rw [ord_get h, ord_get hj])
  · cases hj
theorem sorted_get {l : List Pt} {n k x : Nat} {p : Pt} (h : (ordL (ltI l) n)[k]? = some x) (hp : l[x]? = some p) : (sortedL l n)[k]? = some p := by
  unfold sortedL
  rw [List.getElem?_map, h]
  simp only [Option.map_some]
  rw [List.getD_eq_getElem?_getD, hp]; rfl
theorem sorted_snoc {l : List Pt} {n k x : Nat} {p : Pt} (h : (ordL (ltI l) n)[k]? = some x) (hp : l[x]? = some p) : (sortedL l n).take k ++ [p] = (sortedL l n).take (k + 1) := by
  rw [List.take_add_one, sorted_get h hp]; rfl
theorem turned_get {l : List Pt} {n c k : Nat} {p : Pt} (hk : k < n) (hp : l[rot n c k]? = some p) : (turnedL l n c)[k]? = some p := by
  unfold turnedL
  rw [List.getElem?_map, List.getElem?_range hk]
  simp only [Option.map_some]
  rw [List.getD_eq_getElem?_getD, hp]; rfl
theorem turned_snoc {l : List Pt} {n c k : Nat} {p : Pt} (hk : k < n) (hp : l[rot n c k]? = some p) : (turnedL l n c).take k ++ [p] = (turnedL l n c).take (k + 1) := by
  rw [List.take_add_one, turned_get hk hp]; rfl
/-- two rows of numbers and one of plots, all of one's own -/
structure Od (W wr : World) (C g h : Nat) (O D : List Nat) (v : Value) (k : Nat) (L : List Pt) : Prop where
  b : Below W.heap.size W wr
  o : Di wr g O
  d : Di wr h D
  r : wr.ownsRow C 28 5 v k (plv L)
  g1 : W.heap.size ≤ g
  gh : g < h
  hC : h < C
  z : C ≤ wr.heap.size
theorem Od.keep {W wr w' : World} {C g h : Nat} {O D : List Nat} {v : Value} {k : Nat} {L : List Pt} (q : Od W wr C g h O D v k L) (b : Below wr.heap.size wr w') : Od W w' C g h O D v k L :=
  ⟨q.b.trans (b.mono q.b.size), q.o.keep b, q.d.keep b, rs_own q.r fun e he => b.block e (q.r.lt e he).2, q.g1, q.gh, q.hC, Nat.le_trans q.z b.size⟩
theorem Od.put {W wr : World} {C g h : Nat} {O D : List Nat} {v : Value} {k : Nat} {L : List Pt} (q : Od W wr C g h O D v k L) (x y : Nat) : Od W (wr.setCell ⟨h, x, none⟩ (.int .i64 (y : Int))) C g h O (D.set x y) v k L := by
  have g1 := q.g1
  have gh := q.gh
  refine ⟨q.b.setCell (by simp only; omega) _, ?_, q.d.set x y, rs_own q.r fun e he => Deep.blk_setCell_other _ _ _ _ ?_, q.g1, q.gh, q.hC, by simpa using q.z⟩
  · unfold Di; rw [Deep.blk_setCell_other _ _ _ _ (by simp only; omega)]; exact q.o
  · have := (q.r.lt e he).1
    have := q.hC
    simp only; omega
theorem Od.app {W wr w' : World} {C g h : Nat} {O D : List Nat} {v v' : Value} {k : Nat} {L : List Pt} {ob : Obj} {p : Pt} (q : Od W wr C g h O D v k L) (ow : w'.ownsRow C 28 5 v' (k + 1) (plv L ++ ptv p)) (gr : (wr.alloc ob).grownBy w' v.ownBlock) : Od W w' C g h O D v' (k + 1) (L ++ [p]) := by
  have z1 := q.z
  have z2 := q.g1
  have z3 := q.gh
  have z4 := q.hC
  have bl : ∀ e, e < C → w'.heap[e]? = wr.heap[e]? := fun e he => (gr.block e (by simp; omega) (fun u => by have := (q.r.lt e u.symm).1; omega)).trans (Deep.blk_alloc_lt wr ob e (by omega))
  have zs := gr.size
  simp only [szN] at zs
  refine ⟨⟨gr.os.trans q.b.os, gr.tape.trans q.b.tape, gr.output.trans q.b.output, by omega, fun e he => (bl e (by omega)).trans (q.b.block e he)⟩, (bl g (by omega)).trans q.o, (bl h z4).trans q.d, ?_, z2, z3, z4, by omega⟩
  rw [← plv_snoc]; exact ow
/-- an append to one row alone -/
theorem sp_app {wr w' : World} {C : Nat} {v v' : Value} {k : Nat} {L : List Pt} {ob : Obj} {p : Pt} (hv : wr.ownsRow C 28 5 v k (plv L)) (hC : C ≤ wr.heap.size) (ow : w'.ownsRow C 28 5 v' (k + 1) (plv L ++ ptv p)) (gr : (wr.alloc ob).grownBy w' v.ownBlock) : Below C wr w' ∧ w'.ownsRow C 28 5 v' (k + 1) (plv (L ++ [p])) := by
  refine ⟨rs_grown ((Below.refl C wr).alloc hC ob) gr (hv.alloc ob) (by simp; omega), ?_⟩
  rw [← plv_snoc]; exact ow
end Go.Proofs.Ytdngkeefbpffcaa
