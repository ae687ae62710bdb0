import Derived.Test.YteejnfjlfoeblaaPnWk
import Derived.Test.YteejnfjlfoeblaaPnT2
set_option autoImplicit false
set_option linter.unusedVariables false
namespace Go.Proofs.Yteejnfjlfoeblaa
open Go.RowKit Lk Pn
def tkl (t : Tk) : List Value := [.int .i64 t.ev, .int .i64 t.lg, .int .i64 t.rk]
def flatT (l : List Tk) : List Value := l.flatMap tkl
theorem flatT_len (l : List Tk) : (flatT l).length = l.length * 3 := by
  unfold flatT; rw [List.length_flatMap]
  induction l with
  | nil => rfl
  | cons a l ih => rw [List.map_cons, List.sum_cons, List.length_cons, ih]; simp only [tkl, List.length_cons, List.length_nil]; omega
theorem flatT_get {l : List Tk} {j : Nat} {t : Tk} (h : l[j]? = some t) {q : Nat} {u : Value} (hu : (tkl t)[q]? = some u) : (flatT l)[j * 3 + q]? = some u := by
  induction l generalizing j with
  | nil => simp at h
  | cons a l ih =>
    have e : flatT (a :: l) = tkl a ++ flatT l := by simp [flatT]
    rw [e]
    have hq : q < 3 := by have := (List.getElem?_eq_some_iff.1 hu).1; simpa [tkl] using this
    cases j with
    | zero =>
      simp only [List.getElem?_cons_zero, Option.some.injEq] at h
      subst h
      rw [List.getElem?_append_left (by simp [tkl]; omega), ← hu]; simp
    | succ j =>
      rw [List.getElem?_cons_succ] at h
      rw [List.getElem?_append_right (by simp [tkl]; omega)]
      rw [show (j + 1) * 3 + q - (tkl a).length = j * 3 + q by simp [tkl]; omega]
      exact ih h
theorem flatT_snoc (l : List Tk) (t : Tk) : flatT (l ++ [t]) = flatT l ++ tkl t := by simp [flatT]
theorem Try.und23 : Try.prog.underlying 23 = some (.slice 26) := by kernel_rfl
theorem task_info : (Try.prog.info? 26).map (fun i => (i.zero.map (fun z => z.cells.size), i.size, i.bytes)) = some (some 3, 3, 24) := by kernel_rfl
theorem tkl_one (t : Tk) : ∀ u ∈ tkl t, u.oneCell' = true := by
  intro u hu
  simp only [tkl, List.mem_cons, List.not_mem_nil, or_false] at hu
  rcases hu with rfl | rfl | rfl <;> rfl
/-- a slice of one's own is tasks -/
theorem ts_own {w : World} {B n : Nat} {v : Value} {L : List Tk} (h : w.ownsRow B 26 3 v n (flatT L)) : ∃ a cap, v = .slice a n cap ∧ Ts w a n cap L := by
  have hl := h.1
  rw [flatT_len] at hl
  rcases h.2 with ⟨rfl, h0⟩ | ⟨g, cap, cur, rfl, hB, hb, h1, h2, _, h3⟩
  · subst h0; exact ⟨none, 0, rfl, by omega, Nat.le_refl _, by omega, .inl rfl⟩
  · refine ⟨_, cap, rfl, by omega, h1, by unfold maxLen at h2; omega, .inr ⟨g, 0, rfl, (Array.getElem?_eq_some_iff.1 hb).1, fun j t ht => ?_⟩⟩
    have hj := (List.getElem?_eq_some_iff.1 ht).1
    have get : ∀ q u, q < 3 → (tkl t)[q]? = some u → w.cell? ⟨g, 0 + j * 3 + q, none⟩ = some u := fun q u hq hu => by
      rw [blk_cell hb]
      have := flatT_get ht hu
      rw [← h3, List.getElem?_take] at this
      rw [if_pos (by omega)] at this
      rw [← this]; simp
    exact ⟨get 0 _ (by omega) rfl, get 1 _ (by omega) rfl, get 2 _ (by omega) rfl⟩
/-! few -/
def fewE (m x : Int) : Int := x.tmod m % m + 1
def fewT (m : Int) (t : Tk) : Tk := ⟨fewE m t.ev, fewE (fewE m t.ev) t.lg, t.rk⟩
def fewK (m : Int) (L : List Tk) (k : Nat) : List Tk := (L.take k).map (fewT m)
theorem fewE_bd (m x : Int) (h : 1 ≤ m) : 1 ≤ fewE m x ∧ fewE m x ≤ m := by
  unfold fewE
  have := Int.emod_nonneg (x.tmod m) (b := m) (by omega)
  have := Int.emod_lt_of_pos (x.tmod m) (b := m) (by omega)
  omega
theorem tm_bd (n m : Int) (hm : 0 < m) : -m < n.tmod m ∧ n.tmod m < m := by
  have h1 := Int.tmod_lt_of_pos n hm
  have h2 := Int.lt_tmod_of_pos n hm
  omega
theorem fewK_snoc {m : Int} {L : List Tk} {k : Nat} {t : Tk} (h : L[k]? = some t) : fewK m L (k + 1) = fewK m L k ++ [fewT m t] := by
  unfold fewK; rw [List.take_add_one, h]; simp
theorem fewK_len {m : Int} {L : List Tk} {k : Nat} (h : k ≤ L.length) : (fewK m L k).length = k := by unfold fewK; simp; omega
theorem fewK_may {m : Int} {L : List Tk} {k : Nat} (h1 : 1 ≤ m) (h2 : m ≤ 1000) : ∀ t ∈ fewK m L k, mayT t = true ∧ t.ev ≤ m := by
  intro t ht
  obtain ⟨u, _, rfl⟩ := List.mem_map.1 ht
  obtain ⟨a, b⟩ := fewE_bd m u.ev h1
  obtain ⟨c, d⟩ := fewE_bd (fewE m u.ev) u.lg a
  exact ⟨mayT_iff.2 ⟨a, by simp only [fewT]; omega, c, d⟩, b⟩
theorem tkl_cells {w : World} {g : Nat} {t : Tk} (h : w.heap[g]? = some (.cells #[.int .i64 t.ev, .int .i64 t.lg, .int .i64 t.rk] 26 (0, 0))) : ∀ j u, (tkl t)[j]? = some u → w.cell? ((⟨g, 0, none⟩ : Addr).add j) = some u := by
  intro j u hu
  rw [Addr.add_lit]
  simp only [World.cell?, h, Nat.zero_add]
  simpa [tkl] using hu
end Go.Proofs.Yteejnfjlfoeblaa
