import Derived.Test.YteejnfjlfoeblaaTuP
import Derived.Test.YteejnfjlfoeblaaFlM
import Derived.Test.YteejnfjlfoeblaaFlS
set_option autoImplicit false
set_option linter.unusedVariables false
namespace Go.Proofs.Yteejnfjlfoeblaa
open Go.RowKit Go.ChangeShapes Go.WideShapes Go.ChangeAt Lk Rs Fo
/-! the lists that the law writes -/
structure Cl where
  v : Value
  C : List Int
def rT (t : Cl) : Rw := ⟨2, 1, t.C.length, t.v, rints t.C⟩
def btL (t : Bt) : List Value := [.float .f64 t.c, .float .f64 t.v, .float .f64 t.r, .int .i64 t.e, .int .i64 t.n]
def flatB (L : List Ask1) : List Value := L.flatMap fun a => btL (grd a.n)
def rB (v : Value) (L : List Ask1) : Rw := ⟨44, 5, L.length, v, flatB L⟩
def rC (v : Value) (T : List Cl) : Rw := ⟨36, 1, T.length, v, T.map (·.v)⟩
def rI (v : Value) (M : List Int) : Rw := ⟨2, 1, M.length, v, rints M⟩
structure U4 (w wr : World) (X o : Int) (vB vC vR vM : Value) (L : List Ask1) (T : List Cl) (k : Nat) : Prop where
  r : Rowss w wr ([rB vB L, rC vC T, rI vR (L.map fun a => X % a.n), rI vM (L.map (·.n))] ++ T.map rT)
  tl : T.map (·.C) = L.map (·.C)
  len : L.length = k
  ok : ∀ a ∈ L, okA X o a
theorem flatB_len (L : List Ask1) : (flatB L).length = L.length * 5 := by
  unfold flatB; rw [List.length_flatMap]
  induction L with
  | nil => rfl
  | cons a l ih => rw [List.map_cons, List.sum_cons, List.length_cons, ih]; simp only [btL, List.length_cons, List.length_nil]; omega
theorem flatB_get {L : List Ask1} {j : Nat} {a : Ask1} (h : L[j]? = some a) {q : Nat} {u : Value} (hu : (btL (grd a.n))[q]? = some u) : (flatB L)[j * 5 + q]? = some u := by
  induction L generalizing j with
  | nil => simp at h
  | cons b L ih =>
    have e : flatB (b :: L) = btL (grd b.n) ++ flatB L := by simp [flatB]
    rw [e]
    have hq : q < 5 := by have := (List.getElem?_eq_some_iff.1 hu).1; simpa [btL] using this
    cases j with
    | zero =>
      simp only [List.getElem?_cons_zero, Option.some.injEq] at h
      subst h
      rw [List.getElem?_append_left (by simp [btL]; omega), ← hu]; simp
    | succ j =>
      rw [List.getElem?_cons_succ] at h
      rw [List.getElem?_append_right (by simp [btL]; omega)]
      rw [show (j + 1) * 5 + q - (btL (grd b.n)).length = j * 5 + q by simp [btL]; omega]
      exact ih h
theorem flatB_snoc (L : List Ask1) (a : Ask1) : flatB (L ++ [a]) = flatB L ++ btL (grd a.n) := by simp [flatB]
theorem bt_own {w : World} {B n : Nat} {v : Value} {L : List Ask1} (h : w.ownsRow B 44 5 v n (flatB L)) (hn : ∀ a ∈ L, 1 ≤ a.n ∧ a.n ≤ 1000) : ∃ a cap, v = .slice a n cap ∧ SBt w a n cap (L.map fun a => grd a.n) := by
  have hl := h.1
  rw [flatB_len] at hl
  have ok : ∀ t ∈ L.map fun a => grd a.n, BtOk t := fun t ht => by
    obtain ⟨a, ha, rfl⟩ := List.mem_map.1 ht
    have := hn a ha
    exact ⟨by simp only [grd]; omega, by simp only [grd]; omega, by simp only [grd]; omega, by simp only [grd]; omega⟩
  rcases h.2 with ⟨rfl, h0⟩ | ⟨g, cap, cur, rfl, hB, hb, h1, h2, _, h3⟩
  · subst h0; exact ⟨none, 0, rfl, by rw [List.length_map]; omega, Nat.le_refl _, by omega, .inl rfl, ok⟩
  · refine ⟨_, cap, rfl, by rw [List.length_map]; omega, h1, by unfold maxLen at h2; omega, .inr ⟨g, 0, rfl, (Array.getElem?_eq_some_iff.1 hb).1, fun j t ht => ?_⟩, ok⟩
    rw [List.getElem?_map, Option.map_eq_some_iff] at ht
    obtain ⟨a, ha, rfl⟩ := ht
    have hj := (List.getElem?_eq_some_iff.1 ha).1
    have get : ∀ q u, q < 5 → (btL (grd a.n))[q]? = some u → w.cell? ⟨g, 0 + j * 5 + q, none⟩ = some u := fun q u hq hu => by
      rw [mcell hb]
      have := flatB_get ha hu
      rw [← h3, List.getElem?_take] at this
      rw [if_pos (by omega)] at this
      rw [← this]; simp
    exact ⟨get 0 _ (by omega) rfl, get 1 _ (by omega) rfl, get 2 _ (by omega) rfl, get 3 _ (by omega) rfl, get 4 _ (by omega) rfl⟩
theorem rints_at {l : List Int} {j : Nat} {x : Int} (h : l[j]? = some x) : (rints l)[j]? = some (.int .i64 x) := by unfold rints; rw [List.getElem?_map, h]; rfl
theorem sn_own {w : World} {B n : Nat} {v : Value} {L : List Int} (h : w.ownsRow B 2 1 v n (rints L)) : ∃ a cap, v = .slice a n cap ∧ SN w a n cap L := by
  have hl := h.1
  unfold rints at hl
  rw [List.length_map] at hl
  rcases h.2 with ⟨rfl, h0⟩ | ⟨g, cap, cur, rfl, hB, hb, h1, h2, _, h3⟩
  · subst h0; exact ⟨none, 0, rfl, by omega, Nat.le_refl _, by omega, .inl rfl⟩
  · refine ⟨_, cap, rfl, by omega, h1, by unfold maxLen at h2; omega, .inr ⟨g, 0, rfl, (Array.getElem?_eq_some_iff.1 hb).1, fun j x hx => ?_⟩⟩
    have hj := (List.getElem?_eq_some_iff.1 hx).1
    rw [mcell hb]
    have := rints_at hx
    rw [← h3, List.getElem?_take, if_pos (by omega)] at this
    rw [← this]; simp
theorem sl_of_sn {w : World} {a : Option Addr} {n cap : Nat} {L : List Int} (h : SN w a n cap L) (hr : ∀ x ∈ L, -9223372036854775808 ≤ x ∧ x ≤ 9223372036854775807) : Sl w a n cap L :=
  ⟨h.len, h.le, Nat.le_trans h.le h.small, hr, h.cells.imp id fun ⟨b, off, ha, hb, hc⟩ => ⟨b, off, ha, hb, fun j hj => hc j _ (List.getElem?_eq_getElem hj)⟩⟩
theorem sc_own {w wr : World} {v : Value} {T : List Cl} (hc : wr.ownsRow w.heap.size 36 1 v T.length (T.map (·.v))) (ht : ∀ t ∈ T, wr.ownsRow w.heap.size 2 1 t.v t.C.length (rints t.C)) : ∃ a cap, v = .slice a T.length cap ∧ SC wr a T.length cap (T.map (·.C)) := by
  rcases hc.2 with ⟨rfl, h0⟩ | ⟨g, cap, cur, rfl, hB, hb, h1, h2, _, h3⟩
  · rw [h0]; exact ⟨none, 0, rfl, by rw [List.length_map]; omega, Nat.le_refl _, by omega, .inl rfl⟩
  · refine ⟨_, cap, rfl, by rw [List.length_map], h1, by unfold maxLen at h2; omega, .inr ⟨g, 0, rfl, (Array.getElem?_eq_some_iff.1 hb).1, fun j C hC => ?_⟩⟩
    rw [List.getElem?_map, Option.map_eq_some_iff] at hC
    obtain ⟨t, ht1, rfl⟩ := hC
    have hj := (List.getElem?_eq_some_iff.1 ht1).1
    obtain ⟨a', c', hv, hs⟩ := sn_own (ht t (List.mem_of_getElem? ht1))
    refine ⟨a', c', ?_, hs⟩
    rw [← hv, mcell hb]
    have e : (T.map (·.v))[j]? = some t.v := by rw [List.getElem?_map, ht1]; rfl
    rw [← h3, List.getElem?_take, if_pos (by omega)] at e
    rw [← e]; simp
end Go.Proofs.Yteejnfjlfoeblaa
