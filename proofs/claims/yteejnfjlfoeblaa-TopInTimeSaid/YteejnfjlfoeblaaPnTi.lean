import Derived.Test.YteejnfjlfoeblaaPnFe
import Derived.Test.YteejnfjlfoeblaaPnRu
import Derived.Laws.MakeOwn
set_option autoImplicit false
set_option linter.unusedVariables false
namespace Go.Proofs.Yteejnfjlfoeblaa
open Go.RowKit Lk Pn
/-- stretches in their cells -/
structure At4 (w : World) (b o : Nat) (s : Sl) : Prop where
  c0 : w.cell? ⟨b, o, none⟩ = some (.int .i64 s.task)
  c1 : w.cell? ⟨b, o + 1, none⟩ = some (.int .i64 s.fr)
  c2 : w.cell? ⟨b, o + 2, none⟩ = some (.int .i64 s.to)
  c3 : w.cell? ⟨b, o + 3, none⟩ = some (.bool s.late)
structure SlA (w : World) (a : Option Addr) (n cap : Nat) (L : List Sl) : Prop where
  len : L.length = n
  le : n ≤ cap
  small : cap ≤ 9223372036854775807
  cells : n = 0 ∨ ∃ b, a = some ⟨b, 0, none⟩ ∧ b < w.heap.size ∧ ∀ (j : Nat) s, L[j]? = some s → At4 w b (j * 4) s
theorem SlA.keep {w w' : World} {a : Option Addr} {n cap : Nat} {L : List Sl} (h : SlA w a n cap L) (b : Below w.heap.size w w') : SlA w' a n cap L :=
  ⟨h.len, h.le, h.small, h.cells.imp id fun ⟨g, ha, hg, hc⟩ => ⟨g, ha, Nat.lt_of_lt_of_le hg b.size, fun j s hs => by
    obtain ⟨a, b1, c, d⟩ := hc j s hs
    constructor <;> rw [World.cell?_of_block (b.block g hg)] <;> assumption⟩⟩
theorem SlA.at {w : World} {a : Option Addr} {n cap : Nat} {L : List Sl} (h : SlA w a n cap L) {k : Nat} (hk : k < n) : ∃ b s, a = some ⟨b, 0, none⟩ ∧ b < w.heap.size ∧ L[k]? = some s ∧ At4 w b (k * 4) s := by
  rcases h.cells with h0 | ⟨b, ha, hb, hc⟩
  · omega
  · have hl : k < L.length := by rw [h.len]; exact hk
    exact ⟨b, L[k], ha, hb, List.getElem?_eq_getElem hl, hc k _ (List.getElem?_eq_getElem hl)⟩
theorem slv_get {l : List Sl} {j : Nat} {s : Sl} (h : l[j]? = some s) {q : Nat} {u : Value} (hu : (slc s).toList[q]? = some u) : (slv l)[j * 4 + q]? = some u := by
  induction l generalizing j with
  | nil => simp at h
  | cons a l ih =>
    have e : slv (a :: l) = (slc a).toList ++ slv l := by simp [slv]
    have hq : q < 4 := by have := (List.getElem?_eq_some_iff.1 hu).1; simpa [slc] using this
    rw [e]
    cases j with
    | zero =>
      simp only [List.getElem?_cons_zero, Option.some.injEq] at h
      subst h
      rw [List.getElem?_append_left (by simp [slc]; omega), ← hu]; simp
    | succ j =>
      rw [List.getElem?_cons_succ] at h
      rw [List.getElem?_append_right (by simp [slc]; omega), show (j + 1) * 4 + q - (slc a).toList.length = j * 4 + q by simp [slc]; omega]
      exact ih h
theorem sl_own {w : World} {B n : Nat} {v : Value} {L : List Sl} (h : w.ownsRow B 38 4 v n (slv L)) : ∃ a cap, v = .slice a n cap ∧ SlA w a n cap L := by
  have hl := h.1
  rw [slv_len] at hl
  rcases h.2 with ⟨rfl, h0⟩ | ⟨g, cap, cur, rfl, hB, hb, h1, h2, _, h3⟩
  · subst h0; exact ⟨none, 0, rfl, by omega, Nat.le_refl _, by omega, .inl rfl⟩
  · refine ⟨_, cap, rfl, by omega, h1, by unfold maxLen at h2; omega, .inr ⟨g, rfl, (Array.getElem?_eq_some_iff.1 hb).1, fun j t ht => ?_⟩⟩
    have hj := (List.getElem?_eq_some_iff.1 ht).1
    have get : ∀ q u, q < 4 → (slc t).toList[q]? = some u → w.cell? ⟨g, j * 4 + q, none⟩ = some u := fun q u hq hu => by
      rw [blk_cell hb]
      have := slv_get ht hu
      rw [← h3, List.getElem?_take] at this
      rw [if_pos (by omega)] at this
      rw [← this]; simp
    exact ⟨get 0 _ (by omega) rfl, get 1 _ (by omega) rfl, get 2 _ (by omega) rfl, get 3 _ (by omega) rfl⟩
/-- a row of numbers of one's own -/
structure TR (E : Nat) (w wr : World) (g : Nat) (f : Nat → Int) : Prop where
  b : Below w.heap.size w wr
  g0 : w.heap.size ≤ g
  cl : ∃ cur, wr.heap[g]? = some (.cells cur 2 (0, 0)) ∧ cur.size = E ∧ ∀ i, i < E → cur[i]? = some (.int .i64 (f i))
theorem TR.lt {E : Nat} {w wr : World} {g : Nat} {f : Nat → Int} (h : TR E w wr g f) : g < wr.heap.size := by
  obtain ⟨cur, e, _⟩ := h.cl
  exact (Array.getElem?_eq_some_iff.1 e).1
theorem TR.cell {E : Nat} {w wr : World} {g : Nat} {f : Nat → Int} (h : TR E w wr g f) {i : Nat} (hi : i < E) : wr.cell? ⟨g, i, none⟩ = some (.int .i64 (f i)) := by
  obtain ⟨cur, e, _, e2⟩ := h.cl
  rw [blk_cell e, e2 i hi]
theorem TR.fz {E : Nat} {w wr : World} {g : Nat} {f : Nat → Int} (h : TR E w wr g f) (i : Nat) : wr.frozen? ⟨g, i, none⟩ = false := by
  obtain ⟨cur, e, _⟩ := h.cl
  exact blk_fz e i
theorem TR.set {E : Nat} {w wr : World} {g : Nat} {f : Nat → Int} (h : TR E w wr g f) {i : Nat} (hi : i < E) (v : Int) : TR E w (wr.setCell ⟨g, i, none⟩ (.int .i64 v)) g (fun k => if k = i then v else f k) := by
  obtain ⟨cur, e, e1, e2⟩ := h.cl
  refine ⟨h.b.setCell h.g0 _, h.g0, _, blk_setCell _ _ _ _ e, by simp [e1], fun k hk => ?_⟩
  rw [Array.getElem?_setIfInBounds]
  by_cases hki : i = k
  · subst hki; rw [if_pos rfl, if_pos (by omega), if_pos rfl]
  · rw [if_neg hki, if_neg (fun e => hki e.symm)]; exact e2 k hk
theorem TR.draw {E : Nat} {w wr : World} {g : Nat} {f : Nat → Int} (h : TR E w wr g f) (n : Nat) : TR E w (wr.drewN n) g f :=
  ⟨h.b.trans ((below_drewN (Below.refl _ _) n).mono h.b.size), h.g0, h.cl⟩
theorem TR.eqv {E : Nat} {w wr : World} {g : Nat} {f f' : Nat → Int} (h : TR E w wr g f) (e : ∀ i, i < E → f i = f' i) : TR E w wr g f' := by
  obtain ⟨cur, e1, e2, e3⟩ := h.cl
  exact ⟨h.b, h.g0, cur, e1, e2, fun i hi => by rw [e3 i hi, e i hi]⟩
theorem Try.und36 : Try.prog.underlying 36 = some (.slice 2) := by kernel_rfl
theorem int_info : (Try.prog.info? 2).map (fun i => (i.zero.map (·.cells), i.size, i.bytes)) = some (some #[.int .i64 0], 1, 8) := by kernel_rfl
theorem TR.new (E : Nat) (w : World) : TR E w (w.alloc (.cells (madeCells #[.int .i64 0] (E * 1)) 2)) w.heap.size (fun _ => 0) := by
  refine ⟨(Below.refl _ w).alloc (Nat.le_refl _) _, Nat.le_refl _, _, Deep.blk_alloc_new w _, by simp [madeCells], fun i hi => ?_⟩
  unfold madeCells
  rw [Array.getElem?_map, Array.getElem?_range, if_pos (by omega)]
  simp only [Option.map_some, Array.size_singleton]
  rw [Nat.mod_one]; rfl
end Go.Proofs.Yteejnfjlfoeblaa
