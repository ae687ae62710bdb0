import Derived.Test.YtdngkeefbpffcaaPwH
import Derived.Test.YtdngkeefbpffcaaFlM
set_option autoImplicit false
set_option linter.unusedVariables false
namespace Lk
open Go Go.RowKit
/-- a row that a call hands back -/
theorem Rowss.call {w0 w w' : World} {F : List Rw} {r : Rw} (h : Rowss w0 w F) (b : Below w.heap.size w w') (ow : w'.ownsRow w.heap.size r.t r.c r.v r.n r.xs) : Rowss w0 w' (r :: F) := by
  have hb := h.below b
  have z := h.b.size
  refine ⟨hb.b, fun q hq => ?_, List.pairwise_cons.2 ⟨fun q hq g hg hg2 => ?_, hb.dj⟩⟩
  · rcases List.mem_cons.1 hq with rfl | hq
    · rcases ow with ⟨h0, h1 | ⟨g, cap, cur, e, h2, h3⟩⟩
      · exact ⟨h0, .inl h1⟩
      · exact ⟨h0, .inr ⟨g, cap, cur, e, Nat.le_trans z h2, h3⟩⟩
    · exact hb.own q hq
  · have a := (ow.lt g hg).1
    have c := ((h.own q hq).lt g hg2).2
    omega
/-- one row's cells are written over -/
theorem Rowss.set {w0 w w' : World} {A F : List Rw} {r : Rw} {xs' : List Value} {g : Nat} (h : Rowss w0 w (A ++ r :: F)) (hg : r.v.ownBlock = some g) (f : Only g w w') (ow : w'.ownsRow w0.heap.size r.t r.c r.v r.n xs') : Rowss w0 w' (A ++ ⟨r.t, r.c, r.n, r.v, xs'⟩ :: F) := by
  have h' := h.perm List.perm_middle
  have d := List.pairwise_cons.1 h'.dj
  have gB := (h'.own r (by simp)).lt g hg
  have q : Rowss w0 w' (⟨r.t, r.c, r.n, r.v, xs'⟩ :: (A ++ F)) := by
    refine ⟨h.b.trans (f.below gB.1), fun q hq => ?_, List.pairwise_cons.2 ⟨fun q hq => d.1 q hq, d.2⟩⟩
    rcases List.mem_cons.1 hq with rfl | hq
    · exact ow
    · exact own_blocks (h'.own q (by simp only [List.mem_cons]; exact .inr hq)) fun k hk => f.block k fun e => d.1 q hq g hg (by rw [← e]; exact hk)
  exact q.perm List.perm_middle.symm
end Lk
namespace Go.Proofs.Ytdngkeefbpffcaa
open Go.RowKit Lk Pl
def mk77 : Pt := ⟨4635118810238550016, 0, 0, 0, 0⟩
def rM (v : Value) (n : Nat) (l : List Pt) : Rw := ⟨28, 5, n + 1, v, plv (l ++ [mk77])⟩
def rI (v : Value) (n : Nat) (O : List Nat) : Rw := ⟨3, 1, n, v, ints O⟩
def rP (v : Value) (n : Nat) (L : List Pt) : Rw := ⟨28, 5, n, v, plv L⟩
def rX (v : Value) (n : Nat) (xs : List Value) : Rw := ⟨28, 5, n, v, xs⟩
def rY (v : Value) (n : Nat) (xs : List Value) : Rw := ⟨3, 1, n, v, xs⟩
/-- a's list behind i of its numbers were written over -/
def aL (O : List Nat) (i : Nat) : List Value := List.replicate i (.int .i64 (-5)) ++ ints (O.drop i)
theorem aL_zero (O : List Nat) : aL O 0 = ints O := by unfold aL; simp
theorem aL_get {O : List Nat} {i x : Nat} (h : O[i]? = some x) : (aL O i)[i]? = some (.int .i64 (x : Int)) := by
  unfold aL
  rw [List.getElem?_append_right (by simp), List.length_replicate, Nat.sub_self, drop_cons' h]; rfl
theorem aL_set {O : List Nat} {i x : Nat} (h : O[i]? = some x) : (aL O i).set i (.int .i64 (-5)) = aL O (i + 1) := by
  unfold aL
  rw [List.set_append_right _ _ (by simp), List.length_replicate, Nat.sub_self, drop_cons' h]
  show List.replicate i _ ++ (Value.int .i64 (-5) :: ints (O.drop (i + 1))) = _
  rw [List.replicate_succ', List.append_assoc]; rfl
theorem sp_src {w : World} {a : Option Addr} {n cap : Nat} {l : List Pt} (h : Sp w a n cap l) : ∀ b, a = some b → ∀ j u, (plv l)[j]? = some u → w.cell? (b.add j) = some u := by
  intro b hb j u hu
  rcases h.cells with h0 | ⟨g, off, ha, hg, hc⟩
  · have : l = [] := List.eq_nil_of_length_eq_zero (by rw [h.len]; exact h0)
    subst this; cases hu
  · rw [ha] at hb
    cases hb
    have hj := (List.getElem?_eq_some_iff.1 hu).1
    rw [plv_len] at hj
    have hq : j / 5 < l.length := by omega
    have c := hc (j / 5) hq
    have e : j = j / 5 * 5 + j % 5 := by omega
    have r5 : j % 5 < 5 := Nat.mod_lt _ (by omega)
    obtain ⟨r, hr⟩ : ∃ r, r = j % 5 := ⟨_, rfl⟩
    rw [← hr] at e r5
    have g2 : (ptv l[j / 5])[r]? = some u := by
      have hl : r < (ptv l[j / 5]).length := by simp [ptv]; omega
      have := plv_get (List.getElem?_eq_getElem hq) (List.getElem?_eq_getElem hl)
      rw [← e, hu] at this
      rw [List.getElem?_eq_getElem hl, this]
    rw [Addr.add_lit, e, ← Nat.add_assoc]
    match r, r5, g2 with
    | 0, _, g2 => cases g2; exact c.c0
    | 1, _, g2 => cases g2; exact c.c1
    | 2, _, g2 => cases g2; exact c.c2
    | 3, _, g2 => cases g2; exact c.c3
    | 4, _, g2 => cases g2; exact c.c4
theorem plv_one (L : List Pt) : ∀ u ∈ plv L, u.oneCell' = true := by
  intro u hu
  unfold plv at hu
  obtain ⟨p, _, hp⟩ := List.mem_flatMap.1 hu
  exact mpt_one p u hp
theorem di_own {w : World} {B g n : Nat} {O : List Nat} (h : Di w g O) (hB : B ≤ g) (hl : O.length = n) (hn : n ≤ 1048576) : w.ownsRow B 3 1 (.slice (some ⟨g, 0, none⟩) n n) n (ints O) :=
  ⟨by rw [ints_len, hl]; omega, .inr ⟨g, n, _, rfl, hB, h, Nat.le_refl _, by unfold maxLen; omega, by simp [ints, hl], by
    show (ints O).toArray.toList.take (n * 1) = ints O
    rw [Nat.mul_one]
    exact List.take_of_length_le (by rw [show (ints O).toArray.toList = ints O from rfl, ints_len, hl]; exact Nat.le_refl _)⟩⟩
theorem plv_app (L M : List Pt) : plv L ++ plv M = plv (L ++ M) := by unfold plv; simp
/-- the row with its mark: the front of it is l -/
theorem mark_sp {w : World} {B n : Nat} {v : Value} {l : List Pt} (h : w.ownsRow B 28 5 v (n + 1) (plv (l ++ [mk77]))) (hl : l.length = n) (lt : ∀ p ∈ l, PtLt p) :
    ∃ g cm, v = .slice (some ⟨g, 0, none⟩) (n + 1) cm ∧ n + 1 ≤ cm ∧ cm ≤ 9223372036854775807 ∧ g < w.heap.size ∧ Sp w (some ⟨g, 0, none⟩) n cm l ∧ w.cell? ⟨g, n * 5, none⟩ = some (.float .f64 4635118810238550016) := by
  rcases h.2 with ⟨_, h0⟩ | ⟨g, cap, cur, rfl, hB, hb, h1, h2, _, h3⟩
  · omega
  · have gl := (Array.getElem?_eq_some_iff.1 hb).1
    have get : ∀ j q u, j * 5 + q < (n + 1) * 5 → (plv (l ++ [mk77]))[j * 5 + q]? = some u → w.cell? ⟨g, j * 5 + q, none⟩ = some u := fun j q u hq hu => by
      have := h.cells (g := g) rfl (j * 5 + q) u hu
      rw [Addr.add_lit, Nat.zero_add] at this; exact this
    refine ⟨g, cap, rfl, h1, by unfold maxLen at h2; omega, gl, ⟨hl, by omega, by unfold maxLen at h2; omega, lt, .inr ⟨g, 0, rfl, gl, fun j hj => ?_⟩, fun h => by cases h⟩, ?_⟩
    · have at' : ∀ q u, q < 5 → (ptv l[j])[q]? = some u → w.cell? ⟨g, 0 + j * 5 + q, none⟩ = some u := fun q u hq hu => by
        rw [Nat.zero_add]
        exact get j q u (by omega) (plv_get (by rw [List.getElem?_append_left hj]; exact List.getElem?_eq_getElem hj) hu)
      exact ⟨at' 0 _ (by omega) rfl, at' 1 _ (by omega) rfl, at' 2 _ (by omega) rfl, at' 3 _ (by omega) rfl, at' 4 _ (by omega) rfl⟩
    · have := get n 0 (.float .f64 4635118810238550016) (by omega) (plv_get (a := mk77) (by rw [List.getElem?_append_right (by omega), hl, Nat.sub_self]; rfl) rfl)
      rw [Nat.add_zero] at this
      exact this
theorem ms_same {l L M : List Pt} {T : List (Nat × List Nat)} (h1 : Ms l L T) (h2 : Ms l M T) : IsL L M := by
  refine ⟨h1.1.trans h2.1.symm, fun k p q hp hq => ?_⟩
  have kl : k < T.length := by rw [← h1.1]; exact (List.getElem?_eq_some_iff.1 hp).1
  obtain ⟨x, rfl, hx, _⟩ := h1.2 k p _ hp (List.getElem?_eq_getElem kl)
  obtain ⟨y, rfl, hy, _⟩ := h2.2 k q _ hq (List.getElem?_eq_getElem kl)
  exact ⟨Is.refl _, Is.refl _, hx.trans hy.symm, Is.refl _, Is.refl _⟩
theorem isl_refl (L : List Pt) : IsL L L := ⟨rfl, fun k p q hp hq => by
  rw [hp] at hq
  cases hq
  exact ⟨Is.refl _, Is.refl _, Is.refl _, Is.refl _, Is.refl _⟩⟩
/-- a struct laid into a row of one's own -/
theorem own_put {w w2 : World} {B g n cap : Nat} {xs : List Value} {cur : Array Value} (h : w.ownsRow B 28 5 (.slice (some ⟨g, 0, none⟩) n cap) n xs) {j : Nat} (hj : j < n) {cells : List Value} (hc : cells.length = 5) (hg : w.heap[g]? = some (.cells cur 28 (0, 0))) (h2 : w2.heap[g]? = some (.cells (putAll cur (j * 5) cells) 28 (0, 0))) :
    ∃ xs', w2.ownsRow B 28 5 (.slice (some ⟨g, 0, none⟩) n cap) n xs' := by
  rcases h.2 with ⟨_, h0⟩ | ⟨g', cap', cur', e, hB, hb, h1, h3, h4, h5⟩
  · omega
  · simp only [Value.slice.injEq, Option.some.injEq, Addr.mk.injEq, and_true, true_and] at e
    obtain ⟨rfl, rfl⟩ := e
    rw [hb] at hg
    cases hg
    refine ⟨((putAll cur (j * 5) cells).toList.take (n * 5)), ?_, .inr ⟨g, cap, _, rfl, hB, h2, h1, h3, by rw [putAll_size]; exact h4, rfl⟩⟩
    have sz : (putAll cur (j * 5) cells).size = cap * 5 := by rw [putAll_size]; exact h4
    rw [List.length_take, Array.length_toList, sz]
    have : n * 5 ≤ cap * 5 := Nat.mul_le_mul_right 5 h1
    omega
theorem own_set1 {w : World} {B g n cap j : Nat} {xs : List Value} {u : Value} (h : w.ownsRow B 3 1 (.slice (some ⟨g, 0, none⟩) n cap) n xs) (hj : j < n) : (w.setCell ⟨g, j, none⟩ u).ownsRow B 3 1 (.slice (some ⟨g, 0, none⟩) n cap) n (xs.set j u) := by
  rcases h with ⟨h0, h⟩
  refine ⟨by rw [List.length_set]; exact h0, ?_⟩
  rcases h with ⟨_, h0⟩ | ⟨g', cap', cur', e, hB, hb, h1, h3, h4, h5⟩
  · omega
  · simp only [Value.slice.injEq, Option.some.injEq, Addr.mk.injEq, and_true, true_and] at e
    obtain ⟨rfl, rfl⟩ := e
    refine .inr ⟨g, cap, _, rfl, hB, cells_set w g j u hb, h1, h3, by rw [Array.size_setIfInBounds]; exact h4, ?_⟩
    rw [← h5]
    have : j < n * 1 := by omega
    rw [Array.toList_setIfInBounds, List.take_set]
theorem only_set (w : World) (g j : Nat) (u : Value) : Only g w (w.setCell ⟨g, j, none⟩ u) := ⟨rfl, rfl, rfl, by simp [World.setCell], fun k hk => Deep.blk_setCell_other _ _ _ _ hk⟩
end Go.Proofs.Ytdngkeefbpffcaa
