import Derived.Test.YtgdkmakmdomdbaaPnA
import Derived.Test.YtgdkmakmdomdbaaFlG
import Derived.Test.YtgdkmakmdomdbaaFlS
import Derived.Test.YtgdkmakmdomdbaaProg
import Derived.WalkKit
import Derived.WalkLawsBesides
import Derived.WalkSpells
import Derived.BigQuiet
import Derived.Lib.Hide
import Derived.Outline
import Derived.LoopTactic
import Derived.Deep.Heap
import Derived.Deep.OwnRows
import Derived.Below
import Derived.IntWalk
import Derived.Laws.AppendOwn
import Derived.Maps.AppendAt
import Derived.ArgAppend
set_option autoImplicit false
set_option linter.unusedVariables false
namespace Go.Proofs.Ytgdkmakmdomdbaa
open Go.RowKit Lk Pn
/-! how a plan lies in memory: of the program's own (cY) and of the document's (dY) -/
structure Ly where
  tp : TypeId
  tl : TypeId
  tr : TypeId
  rc : Rn → List Value
  rl : ∀ r, (rc r).length = 5
def cY : Ly := ⟨64, 68, 102, fun r => [.int .i64 r.t.ev, .int .i64 r.t.lg, .int .i64 r.t.rk, .int .i64 r.fi, .int .i64 r.ct], fun _ => rfl⟩
def dY : Ly := ⟨71, 74, 108, fun r => [.int .i64 r.fi, .int .i64 r.ct, .int .i64 r.t.ev, .int .i64 r.t.lg, .int .i64 r.t.rk], fun _ => rfl⟩
def flatR (Y : Ly) (l : List Rn) : List Value := l.flatMap Y.rc
theorem flatR_len (Y : Ly) (l : List Rn) : (flatR Y l).length = l.length * 5 := by
  unfold flatR; rw [List.length_flatMap]
  induction l with
  | nil => rfl
  | cons a l ih => simp only [Y.rl] at ih ⊢; rw [List.map_cons, List.sum_cons, List.length_cons, ih]; omega
theorem flatR_get (Y : Ly) : ∀ (l : List Rn) (j q : Nat), q < 5 → (flatR Y l)[j * 5 + q]? = (l[j]?).bind fun r => (Y.rc r)[q]?
  | [], j, q, _ => by simp [flatR]
  | a :: l, 0, q, h => by
    unfold flatR
    rw [List.flatMap_cons, List.getElem?_append_left (by rw [Y.rl]; omega)]; simp
  | a :: l, j + 1, q, h => by
    have := flatR_get Y l j q h
    unfold flatR at *
    rw [List.flatMap_cons, List.getElem?_append_right (by rw [Y.rl]; omega), Y.rl, show (j + 1) * 5 + q - 5 = j * 5 + q by omega, this]; simp
theorem flatR_snoc (Y : Ly) (l : List Rn) (r : Rn) : flatR Y (l ++ [r]) = flatR Y l ++ Y.rc r := by simp [flatR]
/-- a slice of runs, in a block of the plan's own -/
structure WtB (Y : Ly) (w : World) (g off cap : Nat) (cur : Array Value) (l : List Rn) : Prop where
  hb : w.heap[g]? = some (.cells cur Y.tr (0, 0))
  le : l.length ≤ cap
  cm : cap ≤ maxLen
  md : cap = l.length ∨ (off = 0 ∧ cur.size = cap * 5)
  sz : off + l.length * 5 ≤ cur.size
  cl : ∀ j, j < l.length * 5 → cur[off + j]? = (flatR Y l)[j]?
def Wt (Y : Ly) (w : World) (v : Value) (l : List Rn) : Prop :=
  (v = .slice none 0 0 ∧ l = []) ∨ ∃ g off cap cur, v = .slice (some ⟨g, off, none⟩) l.length cap ∧ WtB Y w g off cap cur l
theorem WtB.of_block {Y : Ly} {w w' : World} {g off cap : Nat} {cur : Array Value} {l : List Rn} (h : WtB Y w g off cap cur l) (e : w'.heap[g]? = w.heap[g]?) : WtB Y w' g off cap cur l :=
  ⟨e.trans h.hb, h.le, h.cm, h.md, h.sz, h.cl⟩
theorem Wt.of_block {Y : Ly} {w w' : World} {v : Value} {l : List Rn} (h : Wt Y w v l) (e : ∀ g, v.ownBlock = some g → w'.heap[g]? = w.heap[g]?) : Wt Y w' v l := by
  rcases h with h | ⟨g, off, cap, cur, rfl, h⟩
  · exact .inl h
  · exact .inr ⟨g, off, cap, cur, rfl, h.of_block (e g rfl)⟩
theorem Wt.form {Y : Ly} {w : World} {v : Value} {l : List Rn} (h : Wt Y w v l) : ∃ a c, v = .slice a l.length c ∧ l.length ≤ c ∧ c ≤ 9223372036854775807 ∧ ∀ g, v.ownBlock = some g → g < w.heap.size := by
  rcases h with ⟨rfl, rfl⟩ | ⟨g, off, cap, cur, rfl, h⟩
  · exact ⟨none, 0, rfl, Nat.le_refl _, by omega, fun g h => by cases h⟩
  · refine ⟨_, _, rfl, h.le, by have := h.cm; unfold maxLen at this; omega, fun g' e => ?_⟩
    cases e
    exact (Array.getElem?_eq_some_iff.1 h.hb).1
theorem Wt.some {Y : Ly} {w : World} {v : Value} {l : List Rn} (h : Wt Y w v l) (h0 : l ≠ []) : ∃ g off cap cur, v = .slice (some ⟨g, off, none⟩) l.length cap ∧ WtB Y w g off cap cur l := by
  rcases h with ⟨_, rfl⟩ | h
  · exact absurd rfl h0
  · exact h
theorem WtB.cell {Y : Ly} {w : World} {g off cap : Nat} {cur : Array Value} {l : List Rn} (h : WtB Y w g off cap cur l) {j : Nat} {r : Rn} (hj : l[j]? = some r) {q : Nat} (hq : q < 5) :
    w.cell? ⟨g, off + (j * 5 + q), none⟩ = (Y.rc r)[q]? := by
  have h1 := h.cl (j * 5 + q) (by have := (List.getElem?_eq_some_iff.1 hj).1; omega)
  rw [flatR_get Y l j q hq, hj] at h1
  have : w.cell? ⟨g, off + (j * 5 + q), none⟩ = cur[off + (j * 5 + q)]? := by simp [World.cell?, h.hb]
  rw [this, h1]; rfl
theorem WtB.lt {Y : Ly} {w : World} {g off cap : Nat} {cur : Array Value} {l : List Rn} (h : WtB Y w g off cap cur l) : g < w.heap.size := (Array.getElem?_eq_some_iff.1 h.hb).1
theorem WtB.frozen {Y : Ly} {w : World} {g off cap : Nat} {cur : Array Value} {l : List Rn} (h : WtB Y w g off cap cur l) (o : Nat) : w.frozen? ⟨g, o, none⟩ = false := by
  simp [World.frozen?, h.hb]
theorem blk_setCell (w : World) (g o : Nat) (u : Value) {cur : Array Value} {t : TypeId} {f : Nat × Nat} (h : w.heap[g]? = some (.cells cur t f)) : (w.setCell ⟨g, o, none⟩ u).heap[g]? = some (.cells (cur.setIfInBounds o u) t f) := by
  obtain ⟨h1, h2⟩ := Array.getElem?_eq_some_iff.1 h
  unfold World.setCell
  simp only
  rw [Array.getElem?_eq_getElem (by simpa using h1), Array.getElem_modify]
  simp [h2]
theorem size_setCell (w : World) (a : Addr) (u : Value) : (w.setCell a u).heap.size = w.heap.size := by simp [World.setCell]
/-- a run's cell is written -/
theorem WtB.set {Y : Ly} {w : World} {g off cap : Nat} {cur : Array Value} {l : List Rn} (h : WtB Y w g off cap cur l) {j : Nat} {r r' : Rn} (hj : l[j]? = some r) {q : Nat} (hq : q < 5) (u : Value) (hr : Y.rc r' = (Y.rc r).set q u) :
    WtB Y (w.setCell ⟨g, off + (j * 5 + q), none⟩ u) g off cap (cur.setIfInBounds (off + (j * 5 + q)) u) (l.set j r') := by
  have hjl := (List.getElem?_eq_some_iff.1 hj).1
  have hsz := h.sz
  refine ⟨blk_setCell _ _ _ _ h.hb, by rw [List.length_set]; exact h.le, h.cm, by rw [List.length_set, Array.size_setIfInBounds]; exact h.md, by rw [List.length_set, Array.size_setIfInBounds]; exact h.sz, fun m hm => ?_⟩
  rw [List.length_set] at hm
  have hm5 : m = m / 5 * 5 + m % 5 := by omega
  have h5 : m % 5 < 5 := by omega
  have h1 := h.cl m hm
  rw [Array.getElem?_setIfInBounds]
  generalize m / 5 = j' at *
  generalize m % 5 = q' at *
  subst hm5
  rw [flatR_get _ _ _ _ h5] at h1 ⊢
  by_cases e : j' = j
  · subst e
    rw [List.getElem?_set_self hjl, Option.bind_some, hr]
    rw [hj, Option.bind_some] at h1
    by_cases e2 : q' = q
    · subst e2
      rw [if_pos rfl, if_pos (by omega), List.getElem?_set_self (by rw [Y.rl]; exact hq)]
    · rw [if_neg (by omega), h1, List.getElem?_set_ne (by omega)]
  · rw [if_neg (by omega), h1, List.getElem?_set_ne (by omega)]
/-- the slice without its first run -/
theorem WtB.tail {Y : Ly} {w : World} {g off cap : Nat} {cur : Array Value} {r : Rn} {l : List Rn} (h : WtB Y w g off cap cur (r :: l)) : WtB Y w g (off + 5) l.length cur l := by
  have h1 := h.sz
  have h2 := h.le
  have h3 := h.cm
  rw [List.length_cons] at h1 h2
  refine ⟨h.hb, Nat.le_refl _, by omega, .inl rfl, by omega, fun j hj => ?_⟩
  have := h.cl (j + 5) (by rw [List.length_cons]; omega)
  rw [show off + 5 + j = off + (j + 5) by omega, this]
  unfold flatR
  rw [List.flatMap_cons, List.getElem?_append_right (by rw [Y.rl]; omega), Y.rl, Nat.add_sub_cancel]
theorem WtB.none {Y : Ly} {w : World} {g off cap : Nat} {cur : Array Value} {l : List Rn} (h : WtB Y w g off cap cur l) : WtB Y w g off 0 cur [] :=
  ⟨h.hb, Nat.le_refl _, by omega, .inl rfl, by have := h.sz; simp; omega, fun j hj => by simp at hj⟩
theorem list_take_of {α : Type} {c : List α} {xs : List α} {n : Nat} (hn : xs.length = n) (h : ∀ j, j < n → c[j]? = xs[j]?) : c.take n = xs := by
  apply List.ext_getElem?
  intro j
  rw [List.getElem?_take]
  by_cases hj : j < n
  · rw [if_pos hj, h j hj]
  · rw [if_neg hj, List.getElem?_eq_none (by omega)]
theorem wt_of_own {Y : Ly} {w : World} {B n : Nat} {v : Value} {l : List Rn} (h : w.ownsRow B Y.tr 5 v n (flatR Y l)) (hn : 0 < n) : ∃ g cap cur, v = .slice (some ⟨g, 0, none⟩) n cap ∧ l.length = n ∧ B ≤ g ∧ WtB Y w g 0 cap cur l := by
  have hl : l.length = n := by have := h.1; rw [flatR_len] at this; omega
  rcases h.2 with ⟨_, h0⟩ | ⟨g, cap, cur, rfl, hB, hb, h1, h2, h3, h4⟩
  · omega
  · refine ⟨g, cap, cur, rfl, hl, hB, hb, by omega, h2, .inr ⟨rfl, h3⟩, ?_, fun j hj => ?_⟩
    · rw [h3, hl]; have := Nat.mul_le_mul_right 5 h1; omega
    · rw [← h4, List.getElem?_take, if_pos (by omega), Nat.zero_add]; simp
theorem own_of_wt {Y : Ly} {w : World} {g cap : Nat} {cur : Array Value} {l : List Rn} (h : WtB Y w g 0 cap cur l) (hc : cur.size = cap * 5) : w.ownsRow 0 Y.tr 5 (.slice (some ⟨g, 0, none⟩) l.length cap) l.length (flatR Y l) := by
  refine ⟨flatR_len Y l, .inr ⟨g, cap, cur, rfl, Nat.zero_le _, h.hb, h.le, h.cm, hc, ?_⟩⟩
  exact list_take_of (flatR_len Y l) fun j hj => by rw [← h.cl j hj, Nat.zero_add]; simp
section
variable {ops : Array Oper} {rest : List Oper} {o : Oper} {a : Act} {Q : Exit → Act → World → Prop} {w : World}
theorem run_append_wt (Y : Ly) (t ty : TypeId) (i : TypeInfo) (z : Value) (bytes : Nat) (ht : Try.prog.underlying t = some (.slice Y.tr)) (hi : Try.prog.info? Y.tr = some i) (hz : i.zero = some z) (hsize : i.size = 5) (hby : i.bytes = bytes) (hb1 : bytes ≤ 48) (hzs : z.cells.size = 5)
    {v : Value} {l : List Rn} (hw : Wt Y w v l) {g c : Nat} {r : Rn} (hb : w.heap[g]? = some (.cells (Y.rc r).toArray Y.tr (0, 0))) (h63 : l.length ≤ 4194304) (hone : ∀ u ∈ Y.rc r, u.oneCell' = true) :
    ∃ g' c' w', (Builtin.append_ #[t, t] ty #[v, .slice (some ⟨g, 0, none⟩) 1 c]).run Try.prog w = .ok (.slice (some ⟨g', 0, none⟩) (l.length + 1) c') w' ∧ Wt Y w' (.slice (some ⟨g', 0, none⟩) (l.length + 1) c') (l ++ [r]) ∧ w.grownBy w' v.ownBlock ∧ (v.ownBlock = some g' ∨ w.heap.size ≤ g') := by
  have hcells : ∀ j u, (Y.rc r)[j]? = some u → w.cell? ((⟨g, 0, none⟩ : Addr).add j) = some u := by
    intro j u hu
    rw [Addr.add_lit]
    simp only [World.cell?, hb, Nat.zero_add]
    simpa using hu
  have hlen : (Y.rc r).length = 1 * 5 := by rw [Y.rl]
  have fin : ∀ (v' : Value) (w' : World) (B : Nat), w'.ownsRow B Y.tr 5 v' (l.length + 1) (flatR Y l ++ Y.rc r) → ∃ g' c', v' = .slice (some ⟨g', 0, none⟩) (l.length + 1) c' ∧ B ≤ g' ∧ Wt Y w' v' (l ++ [r]) := by
    intro v' w' B h
    rw [← flatR_snoc] at h
    obtain ⟨g', cap, cur, rfl, hl, hB, h2⟩ := wt_of_own h (by omega)
    exact ⟨g', cap, rfl, hB, .inr ⟨g', 0, cap, cur, by rw [List.length_append]; rfl, h2⟩⟩
  have hby2 : (l.length + 1) * bytes ≤ 140737488355328 := Nat.le_trans (Nat.mul_le_mul (Nat.add_le_add_right h63 1) hb1) (by decide)
  have own : ∀ v, w.ownsRow 0 Y.tr 5 v l.length (flatR Y l) → ∃ g' c' w', (Builtin.append_ #[t, t] ty #[v, .slice (some ⟨g, 0, none⟩) 1 c]).run Try.prog w = .ok (.slice (some ⟨g', 0, none⟩) (l.length + 1) c') w' ∧ Wt Y w' (.slice (some ⟨g', 0, none⟩) (l.length + 1) c') (l ++ [r]) ∧ w.grownBy w' v.ownBlock ∧ (v.ownBlock = some g' ∨ w.heap.size ≤ g') := by
    intro v h
    obtain ⟨v', w', hr, h2, h3, _, h5⟩ := run_append_own_at (P := Try.prog) w 0 t ty Y.tr i z 5 bytes ht hi hz hsize hby hzs (by decide) v l.length (flatR Y l) h ⟨g, 0, none⟩ 1 c (Y.rc r) hlen hcells hone (by simp only [maxLen]; omega) hby2 (Nat.zero_le _)
    obtain ⟨g', c', rfl, _, hw'⟩ := fin v' w' 0 h2
    refine ⟨g', c', w', hr, hw', h3, ?_⟩
    rcases h5 with h5 | h5
    · exact .inl h5.symm
    · exact .inr (Nat.le_of_eq (Option.some.inj h5).symm)
  rcases hw with ⟨rfl, rfl⟩ | ⟨g1, off, cap, cur, rfl, h⟩
  · exact own _ (World.ownsRow_nil _ _ _ _)
  · rcases h.md with hm | ⟨rfl, hm⟩
    · subst hm
      obtain ⟨v', w', hr, h2, h3⟩ := run_append_arg_grows (P := Try.prog) w t ty Y.tr i z 5 bytes ht hi hz hsize hby hzs (by decide) ⟨g1, off, none⟩ l.length l.length (flatR Y l) (flatR_len Y l)
        (fun j u hu => by
          rw [Addr.add_lit]
          have hj : j < l.length * 5 := by rw [← flatR_len Y l]; exact (List.getElem?_eq_some_iff.1 hu).1
          simp only [World.cell?, h.hb]
          rw [← hu, ← h.cl j hj]; rfl)
        ⟨g, 0, none⟩ 1 c (Y.rc r) hlen hcells (by omega) (by simp only [maxLen]; omega) hby2
      obtain ⟨g', c', rfl, hB, hw'⟩ := fin v' w' _ h2
      exact ⟨g', c', w', hr, hw', ⟨h3.os, h3.tape, h3.output, h3.size, fun k hk _ => h3.block k hk (by simp)⟩, .inr hB⟩
    · exact own _ (own_of_wt h hm)
theorem wpList_append_wt (Y : Ly) (hgd : o.guard = none) (s x : Operand) (t : TypeId) (ho : o.op = .call { callee := .builtin .append, args := #[s, x], argTypes := #[t, t] })
    (i : TypeInfo) (z : Value) (bytes : Nat) (ht : Try.prog.underlying t = some (.slice Y.tr)) (hi : Try.prog.info? Y.tr = some i) (hz : i.zero = some z) (hsize : i.size = 5) (hby : i.bytes = bytes) (hb1 : bytes ≤ 48) (hzs : z.cells.size = 5)
    {v : Value} {l : List Rn} (hs : a.eval s = v) (hw : Wt Y w v l) {g c : Nat} {r : Rn} (hx : a.eval x = .slice (some ⟨g, 0, none⟩) 1 c) (hb : w.heap[g]? = some (.cells (Y.rc r).toArray Y.tr (0, 0))) (h63 : l.length ≤ 4194304) (hone : ∀ u ∈ Y.rc r, u.oneCell' = true)
    (h : ∀ g' c' w', Wt Y w' (.slice (some ⟨g', 0, none⟩) (l.length + 1) c') (l ++ [r]) → w.grownBy w' v.ownBlock → (v.ownBlock = some g' ∨ w.heap.size ≤ g') → wpList Try.prog ops Q rest (a.put o.dst (.slice (some ⟨g', 0, none⟩) (l.length + 1) c')) w') : wpList Try.prog ops Q (o :: rest) a w := by
  refine wpList_plain hgd fun K hK => ?_
  obtain ⟨g', c', w', hr, h2, h3, h4⟩ := run_append_wt Y t o.type i z bytes ht hi hz hsize hby hb1 hzs hw (c := c) hb h63 hone
  unfold Oper.wp execOp
  simp only [ho, resolve, invoke, builtin, Sem.run_bind, Sem.run_pure, Result.andThen_ok, List.map_toArray, List.map_cons, List.map_nil, hs, hx, hr]
  exact hK _ _ (h g' c' w' h2 h3 h4)
end
end Go.Proofs.Ytgdkmakmdomdbaa
