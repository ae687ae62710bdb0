import Derived.Test.YtdngkeefbpffcaaPvA
import Derived.Test.YtdngkeefbpffcaaPvB
set_option autoImplicit false
set_option linter.unusedVariables false
namespace Pl
open Lk
/-- which places were had -/
def hadL (O : List Nat) (k n : Nat) : List Nat := (List.range n).map fun x => if x ∈ O.take k then 1 else 0
theorem had_len (O : List Nat) (k n : Nat) : (hadL O k n).length = n := by simp [hadL]
theorem had_zero (O : List Nat) (n : Nat) : hadL O 0 n = List.replicate n 0 := by
  unfold hadL
  refine List.ext_getElem (by simp) fun i h1 h2 => by simp
theorem had_get {O : List Nat} {k n x : Nat} (h : x < n) : (hadL O k n)[x]? = some (if x ∈ O.take k then 1 else 0) := by
  unfold hadL
  rw [List.getElem?_map, List.getElem?_range h]; rfl
theorem had_set {O : List Nat} {k n x : Nat} (h : O[k]? = some x) : (hadL O k n).set x 1 = hadL O (k + 1) n := by
  refine List.ext_getElem? fun i => ?_
  by_cases hi : i < n
  · rw [had_get hi, List.take_add_one, h]
    by_cases e : x = i
    · subst e
      rw [List.getElem?_set_self (by rw [had_len]; exact hi)]
      simp
    · rw [List.getElem?_set_ne e, had_get hi]
      have : i ≠ x := fun q => e q.symm
      simp [this]
  · rw [List.getElem?_eq_none (by rw [List.length_set, had_len]; omega), List.getElem?_eq_none (by rw [had_len]; omega)]
end Pl
namespace Go.Proofs.Ytdngkeefbpffcaa
open Go.RowKit Lk Pl
theorem ord_get {l : List Pt} {n k x : Nat} (h : (ordL (ltI l) n)[k]? = some x) : gd (ordL (ltI l) n) k = x := by unfold gd; rw [List.getD_eq_getElem?_getD, h]; rfl
theorem ord_at (l : List Pt) {n k : Nat} (hk : k < n) : ∃ x, (ordL (ltI l) n)[k]? = some x ∧ x < n := by
  obtain ⟨h1, h2, _⟩ := ord_ok l n
  refine ⟨_, List.getElem?_eq_getElem (by rw [h1]; exact hk), h2 _ (List.getElem_mem _)⟩
theorem had_at {l : List Pt} {n k x : Nat} (h : (ordL (ltI l) n)[k]? = some x) (hx : x < n) (hk : k < n) : (hadL (ordL (ltI l) n) k n)[x]? = some 0 := by
  rw [had_get hx, if_neg]
  intro hm
  obtain ⟨j, hj⟩ := List.mem_iff_getElem?.1 hm
  rw [List.getElem?_take] at hj
  split at hj
  · exact ord_inj l n (i := j) (j := k) ‹_› hk (by rw [ord_get h, ord_get hj])
  · cases hj
theorem sorted_get {l : List Pt} {n k x : Nat} {p : Pt} (h : (ordL (ltI l) n)[k]? = some x) (hp : l[x]? = some p) : (sortedL l n)[k]? = some p := by
  unfold sortedL
  rw [List.getElem?_map, h]
  simp only [Option.map_some]
  rw [List.getD_eq_getElem?_getD, hp]; rfl
theorem sorted_snoc {l : List Pt} {n k x : Nat} {p : Pt} (h : (ordL (ltI l) n)[k]? = some x) (hp : l[x]? = some p) : (sortedL l n).take k ++ [p] = (sortedL l n).take (k + 1) := by
  rw [List.take_add_one, sorted_get h hp]; rfl
theorem turned_get {l : List Pt} {n c k : Nat} {p : Pt} (hk : k < n) (hp : l[rot n c k]? = some p) : (turnedL l n c)[k]? = some p := by
  unfold turnedL
  rw [List.getElem?_map, List.getElem?_range hk]
  simp only [Option.map_some]
  rw [List.getD_eq_getElem?_getD, hp]; rfl
theorem turned_snoc {l : List Pt} {n c k : Nat} {p : Pt} (hk : k < n) (hp : l[rot n c k]? = some p) : (turnedL l n c).take k ++ [p] = (turnedL l n c).take (k + 1) := by
  rw [List.take_add_one, turned_get hk hp]; rfl
/-- two rows of numbers and one of plots, all of one's own -/
structure Od (W wr : World) (C g h : Nat) (O D : List Nat) (v : Value) (k : Nat) (L : List Pt) : Prop where
  b : Below W.heap.size W wr
  o : Di wr g O
  d : Di wr h D
  r : wr.ownsRow C 28 5 v k (plv L)
  g1 : W.heap.size ≤ g
  gh : g < h
  hC : h < C
  z : C ≤ wr.heap.size
theorem Od.keep {W wr w' : World} {C g h : Nat} {O D : List Nat} {v : Value} {k : Nat} {L : List Pt} (q : Od W wr C g h O D v k L) (b : Below wr.heap.size wr w') : Od W w' C g h O D v k L :=
  ⟨q.b.trans (b.mono q.b.size), q.o.keep b, q.d.keep b, rs_own q.r fun e he => b.block e (q.r.lt e he).2, q.g1, q.gh, q.hC, Nat.le_trans q.z b.size⟩
theorem Od.put {W wr : World} {C g h : Nat} {O D : List Nat} {v : Value} {k : Nat} {L : List Pt} (q : Od W wr C g h O D v k L) (x y : Nat) : Od W (wr.setCell ⟨h, x, none⟩ (.int .i64 (y : Int))) C g h O (D.set x y) v k L := by
  have g1 := q.g1
  have gh := q.gh
  refine ⟨q.b.setCell (by simp only; omega) _, ?_, q.d.set x y, rs_own q.r fun e he => Deep.blk_setCell_other _ _ _ _ ?_, q.g1, q.gh, q.hC, by simpa using q.z⟩
  · unfold Di; rw [Deep.blk_setCell_other _ _ _ _ (by simp only; omega)]; exact q.o
  · have := (q.r.lt e he).1
    have := q.hC
    simp only; omega
theorem Od.app {W wr w' : World} {C g h : Nat} {O D : List Nat} {v v' : Value} {k : Nat} {L : List Pt} {ob : Obj} {p : Pt} (q : Od W wr C g h O D v k L) (ow : w'.ownsRow C 28 5 v' (k + 1) (plv L ++ ptv p)) (gr : (wr.alloc ob).grownBy w' v.ownBlock) : Od W w' C g h O D v' (k + 1) (L ++ [p]) := by
  have z1 := q.z
  have z2 := q.g1
  have z3 := q.gh
  have z4 := q.hC
  have bl : ∀ e, e < C → w'.heap[e]? = wr.heap[e]? := fun e he => (gr.block e (by simp; omega) (fun u => by have := (q.r.lt e u.symm).1; omega)).trans (Deep.blk_alloc_lt wr ob e (by omega))
  have zs := gr.size
  simp only [szN] at zs
  refine ⟨⟨gr.os.trans q.b.os, gr.tape.trans q.b.tape, gr.output.trans q.b.output, by omega, fun e he => (bl e (by omega)).trans (q.b.block e he)⟩, (bl g (by omega)).trans q.o, (bl h z4).trans q.d, ?_, z2, z3, z4, by omega⟩
  rw [← plv_snoc]; exact ow
/-- an append to one row alone -/
theorem sp_app {wr w' : World} {C : Nat} {v v' : Value} {k : Nat} {L : List Pt} {ob : Obj} {p : Pt} (hv : wr.ownsRow C 28 5 v k (plv L)) (hC : C ≤ wr.heap.size) (ow : w'.ownsRow C 28 5 v' (k + 1) (plv L ++ ptv p)) (gr : (wr.alloc ob).grownBy w' v.ownBlock) : Below C wr w' ∧ w'.ownsRow C 28 5 v' (k + 1) (plv (L ++ [p])) := by
  refine ⟨rs_grown ((Below.refl C wr).alloc hC ob) gr (hv.alloc ob) (by simp; omega), ?_⟩
  rw [← plv_snoc]; exact ow
end Go.Proofs.Ytdngkeefbpffcaa
