import Derived.Test.YtdngkeefbpffcaaFlG
import Derived.Deep.OwnRows
set_option autoImplicit false
set_option linter.unusedVariables false
namespace Lk
open Go Go.RowKit
/-! a row of values stored into a part of a block of the call's own -/
def putAll (cur : Array Value) (j : Nat) : List Value → Array Value
  | [] => cur
  | v :: vs => putAll (cur.setIfInBounds j v) (j + 1) vs
theorem putAll_size (vs : List Value) : ∀ (cur : Array Value) (j : Nat), (putAll cur j vs).size = cur.size := by
  induction vs with
  | nil => intro _ _; rfl
  | cons v vs ih => intro cur j; rw [putAll, ih]; simp
theorem putAll_get (vs : List Value) : ∀ (cur : Array Value) (j k : Nat), j + vs.length ≤ cur.size → (putAll cur j vs)[k]? = if j ≤ k ∧ k < j + vs.length then vs[k - j]? else cur[k]? := by
  induction vs with
  | nil => intro cur j k h; rw [putAll, if_neg (by simp only [List.length_nil]; omega)]
  | cons v vs ih =>
    intro cur j k h
    simp only [List.length_cons] at h
    have hs : (cur.setIfInBounds j v).size = cur.size := by simp
    rw [putAll, ih _ _ _ (by omega), Array.getElem?_setIfInBounds]
    by_cases h1 : j = k
    · subst h1
      rw [if_neg (by omega), if_pos rfl, if_pos (by omega), if_pos (by simp)]
      simp
    · by_cases h2 : j + 1 ≤ k ∧ k < j + 1 + vs.length
      · rw [if_pos h2, if_pos (by simp; omega), show k - j = (k - (j + 1)) + 1 by omega, List.getElem?_cons_succ]
      · rw [if_neg h2, if_neg h1, if_neg (by simp; omega)]
/-- only block g has turned -/
structure Only (g : Nat) (w w' : World) : Prop where
  os : w'.os = w.os
  tape : w'.tape = w.tape
  output : w'.output = w.output
  size : w'.heap.size = w.heap.size
  block : ∀ k, k ≠ g → w'.heap[k]? = w.heap[k]?
theorem Only.below {g B : Nat} {w w' : World} (h : Only g w w') (hB : B ≤ g) : Below B w w' := ⟨h.os, h.tape, h.output, Nat.le_of_eq h.size.symm, fun k hk => h.block k (by omega)⟩
theorem Only.cell {g b o : Nat} {w w' : World} (h : Only g w w') (hb : b ≠ g) : w'.cell? ⟨b, o, none⟩ = w.cell? ⟨b, o, none⟩ := World.cell?_of_block (w := w) (h.block b hb)
theorem Only.frozen {g b o : Nat} {w w' : World} (h : Only g w w') (hb : b ≠ g) : w'.frozen? ⟨b, o, none⟩ = w.frozen? ⟨b, o, none⟩ := World.frozen?_of_block (w := w) (h.block b hb)
variable {P : Program}
theorem run_storeCells_at (g o : Nat) (t : TypeId) : ∀ (vs : List Value) (i : Nat) (cur : Array Value) (w : World), w.heap[g]? = some (.cells cur t (0, 0)) → o + i + vs.length ≤ cur.size → (∀ v ∈ vs, v.oneCell' = true) →
    ∃ w', (storeCells ⟨g, o, none⟩ vs i).run P w = .ok () w' ∧ w'.heap[g]? = some (.cells (putAll cur (o + i) vs) t (0, 0)) ∧ Only g w w'
  | [], i, cur, w, hg, _, _ => ⟨w, rfl, hg, rfl, rfl, rfl, rfl, fun _ _ => rfl⟩
  | v :: rest, i, cur, w, hg, hl, h1 => by
    simp only [List.length_cons] at hl
    have hi : o + i < cur.size := by omega
    have hadd : (⟨g, o, none⟩ : Addr).add i = ⟨g, o + i, none⟩ := by unfold Addr.add; split <;> simp_all
    have hcell : w.cell? ⟨g, o + i, none⟩ = some cur[o + i] := by simp [World.cell?, hg, hi]
    have hfro : w.frozen? ⟨g, o + i, none⟩ = false := by simp [World.frozen?, hg]
    have hst : (store ((⟨g, o, none⟩ : Addr).add i) v).run P w = .ok () (w.setRow g (cur.setIfInBounds (o + i) v)) := by
      rw [hadd, run_store P w _ v _ (h1 v (by simp)), hcell]
      simp [hfro, setCell_eq_setRow w g (o + i) cur t (0, 0) v hg]
    obtain ⟨w', r1, r2, r3⟩ := run_storeCells_at g o t rest (i + 1) (cur.setIfInBounds (o + i) v) (w.setRow g (cur.setIfInBounds (o + i) v)) (setRow_heap w g cur _ t _ hg) (by simp; omega) (fun x hx => h1 x (by simp [hx]))
    refine ⟨w', ?_, ?_, ?_⟩
    · simp only [storeCells, Sem.run_bind, hst, Result.andThen_ok, r1]
    · rw [r2]; rfl
    · exact ⟨r3.os, r3.tape, r3.output, by rw [r3.size]; simp, fun k hk => (r3.block k hk).trans (setRow_other w g k _ hk)⟩
/-- THE LAW at the store of a row of cells into a part of an own block -/
theorem wpList_store_at {ops : Array Oper} {rest : List Oper} {o : Oper} {a : Act} {w : World} {Q : Exit → Act → World → Prop} (hgd : o.guard = none) {ty : TypeId} {x y : Operand} (ho : o.op = .store ty x y)
    {g j : Nat} {cells : Array Value} (hx : a.eval x = .pointer (some ⟨g, j, none⟩)) (hy : a.eval y = .agg cells)
    {t : TypeId} {old : Array Value} (hg : w.heap[g]? = some (.cells old t (0, 0))) (hi : (P.info? ty).map (·.size) = some cells.size)
    (hold : j + cells.size ≤ old.size) (h1 : cells.all (·.oneCell') = true)
    (h : ∀ w2, w2.heap[g]? = some (.cells (putAll old j cells.toList) t (0, 0)) → Only g w w2 → wpList P ops Q rest (a.put o.dst undef) w2) : wpList P ops Q (o :: rest) a w := by
  refine wpList_plain hgd fun K hK => ?_
  obtain ⟨w', r1, r2, r3⟩ := run_storeCells_at (P := P) g j t cells.toList 0 old w hg (by simp; omega) (fun v hv => (Array.all_eq_true_iff_forall_mem.1 h1) v (by simpa using hv))
  have hr : (storeVar ty ⟨g, j, none⟩ (.agg cells)).run P w = .ok () w' := by
    cases hq : P.info? ty with
    | none => simp [hq] at hi
    | some i =>
      have hs : cells.size = i.size := by simp [hq] at hi; omega
      simp [storeVar, Go.sizeOf, typeInfo, hq, Value.cells, hs, r1]
  unfold Oper.wp execOp
  simp only [ho, hx, hy, Instr.storeAt, Instr.sureAddr, Sem.run_bind, Sem.run_pure, Result.andThen_ok, hr]
  exact hK _ _ (h w' (by simpa using r2) r3)
end Lk
