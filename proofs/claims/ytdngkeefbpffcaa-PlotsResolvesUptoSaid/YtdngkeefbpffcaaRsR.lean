import Derived.Test.YtdngkeefbpffcaaRsB
set_option autoImplicit false
set_option linter.unusedVariables false
namespace Go.Proofs.Ytdngkeefbpffcaa
open Go.RowKit Lk Rs
/-! Resolve, in plain words -/
def hitR (B : List Bt) (LL : List (List Int)) (off : Int) (x : Nat) : Bool := (B.zip LL).all fun p => mk p.1.e.toNat (min off p.1.e) p.2 (x % p.1.e.toNat)
def resL (h : Nat → Bool) : Nat → List Int
  | 0 => []
  | k + 1 => if h k then resL h k ++ [(k : Int)] else resL h k
def resW (B : List Bt) (LL : List (List Int)) (off most : Int) : List Int × Int :=
  if 8 < min B.length LL.length then ([], 3)
  else if longC (LL.take (min B.length LL.length)) then ([], 3)
  else if firstE (B.take (min B.length LL.length)) ≠ 0 then ([], firstE (B.take (min B.length LL.length)))
  else if off < 0 ∨ most < 0 then ([], 2)
  else if 1048576 < most then ([], 3)
  else if 65536 < (resL (hitR B LL off) most.toNat).length then ([], 3)
  else (resL (hitR B LL off) most.toNat, 0)
def rints (l : List Int) : List Value := l.map (.int .i64)
theorem rints_snoc (l : List Int) (x : Int) : rints (l ++ [x]) = rints l ++ [.int .i64 x] := by simp [rints]
theorem resL_yes {h : Nat → Bool} {k : Nat} (e : h k = true) : resL h (k + 1) = resL h k ++ [(k : Int)] := by rw [resL, if_pos e]
theorem resL_no {h : Nat → Bool} {k : Nat} (e : h k = false) : resL h (k + 1) = resL h k := by rw [resL, e]; rfl
theorem resL_more (h : Nat → Bool) (k : Nat) : ∀ d, (resL h k).length ≤ (resL h (k + d)).length
  | 0 => Nat.le_refl _
  | d + 1 => by
    refine Nat.le_trans (resL_more h k d) ?_
    rw [← Nat.add_assoc, resL]; split
    · rw [List.length_append]; omega
    · exact Nat.le_refl _
theorem resL_le (h : Nat → Bool) : ∀ k, (resL h k).length ≤ k
  | 0 => Nat.le_refl _
  | k + 1 => by
    have := resL_le h k
    rw [resL]; split
    · rw [List.length_append]; simp only [List.length_cons, List.length_nil]; omega
    · omega
theorem mem_resL {h : Nat → Bool} {x : Int} : ∀ {k : Nat}, x ∈ resL h k ↔ ∃ j : Nat, j < k ∧ x = (j : Int) ∧ h j = true
  | 0 => by simp [resL]
  | k + 1 => by
    have ih := mem_resL (h := h) (x := x) (k := k)
    by_cases e : h k = true
    · rw [resL_yes e, List.mem_append, ih, List.mem_singleton]
      constructor
      · rintro (⟨j, h1, h2, h3⟩ | rfl)
        · exact ⟨j, by omega, h2, h3⟩
        · exact ⟨k, by omega, rfl, e⟩
      · rintro ⟨j, h1, h2, h3⟩
        by_cases hj : j = k
        · subst hj; exact .inr h2
        · exact .inl ⟨j, by omega, h2, h3⟩
    · rw [resL_no (by simpa using e), ih]
      constructor
      · rintro ⟨j, h1, h2, h3⟩; exact ⟨j, by omega, h2, h3⟩
      · rintro ⟨j, h1, h2, h3⟩
        have : j ≠ k := fun e2 => by subst e2; exact e h3
        exact ⟨j, by omega, h2, h3⟩
/-! memory: the rows of marks -/
structure Mk3 where
  g : Nat
  E : Nat
  f : Nat → Bool
def mval (t : Mk3) : Value := .slice (some ⟨t.g, 0, none⟩) t.E t.E
structure MBk (w : World) (t : Mk3) : Prop where
  cl : ∃ cur, w.heap[t.g]? = some (.cells cur 4 (0, 0)) ∧ cur.size = t.E ∧ ∀ i, i < t.E → cur[i]? = some (.bool (t.f i))
theorem MBk.lt {w : World} {t : Mk3} (h : MBk w t) : t.g < w.heap.size := by
  obtain ⟨cur, e, _⟩ := h.cl
  exact (Array.getElem?_eq_some_iff.1 e).1
theorem MBk.cell {w : World} {t : Mk3} (h : MBk w t) {i : Nat} (hi : i < t.E) : w.cell? ⟨t.g, i, none⟩ = some (.bool (t.f i)) := by
  obtain ⟨cur, e, _, e2⟩ := h.cl
  rw [mcell e, e2 i hi]
theorem MBk.blk {w w' : World} {t : Mk3} (h : MBk w t) (e : w'.heap[t.g]? = w.heap[t.g]?) : MBk w' t := by
  obtain ⟨cur, e1, e2, e3⟩ := h.cl
  exact ⟨cur, e.trans e1, e2, e3⟩
structure MKs (w wr : World) (v : Value) (T : List Mk3) : Prop where
  b : Below w.heap.size w wr
  own : wr.ownsRow w.heap.size 67 1 v T.length (T.map mval)
  bl : ∀ t ∈ T, w.heap.size ≤ t.g ∧ v.ownBlock ≠ some t.g ∧ MBk wr t
theorem rs_own {w w' : World} {B E sz n : Nat} {v : Value} {xs : List Value} (h : w.ownsRow B E sz v n xs) (e : ∀ g, v.ownBlock = some g → w'.heap[g]? = w.heap[g]?) : w'.ownsRow B E sz v n xs := by
  rcases h with ⟨h0, h1 | ⟨g, cap, cur, rfl, h2, h3, h4⟩⟩
  · exact ⟨h0, .inl h1⟩
  · exact ⟨h0, .inr ⟨g, cap, cur, rfl, h2, (e g rfl).trans h3, h4⟩⟩
theorem rs_form {w : World} {B t c n : Nat} {v : Value} {xs : List Value} (h : w.ownsRow B t c v n xs) : ∃ a cap, v = .slice a n cap ∧ n ≤ cap ∧ cap ≤ 9223372036854775807 := by
  rcases h.2 with ⟨rfl, h0⟩ | ⟨g, cap, cur, rfl, hB, hb, h1, h2, _, h3⟩
  · exact ⟨_, _, by rw [h0], by omega, by omega⟩
  · exact ⟨_, _, rfl, h1, by unfold maxLen at h2; omega⟩
theorem rs_grown {w w' w'' : World} {B n t c : Nat} {v : Value} {xs : List Value} (h : Below B w w') (g : w'.grownBy w'' v.ownBlock) (hv : w'.ownsRow B t c v n xs) (hB : B ≤ w'.heap.size) : Below B w w'' := by
  refine h.trans ⟨g.os, g.tape, g.output, g.size, fun i hi => g.block i (by omega) fun e => ?_⟩
  have := (hv.lt i e.symm).1
  omega
theorem MKs.below {w wr w2 : World} {v : Value} {T : List Mk3} (h : MKs w wr v T) (b : Below wr.heap.size wr w2) : MKs w w2 v T :=
  ⟨h.b.trans (b.mono h.b.size), rs_own h.own fun g hg => b.block g (h.own.lt g hg).2, fun t ht => let ⟨h1, h2, h3⟩ := h.bl t ht; ⟨h1, h2, h3.blk (b.block _ h3.lt)⟩⟩
theorem MKs.at {w wr : World} {v : Value} {T : List Mk3} (h : MKs w wr v T) {k : Nat} {t : Mk3} (ht : T[k]? = some t) : ∃ g c, v = .slice (some ⟨g, 0, none⟩) T.length c ∧ g < wr.heap.size ∧ wr.cell? ⟨g, k, none⟩ = some (mval t) := by
  have hk := (List.getElem?_eq_some_iff.1 ht).1
  rcases h.own.2 with ⟨rfl, h0⟩ | ⟨g, cap, cur, rfl, hB, hb, h1, h2, _, h3⟩
  · omega
  · refine ⟨g, cap, rfl, (Array.getElem?_eq_some_iff.1 hb).1, ?_⟩
    rw [mcell hb]
    have e : (T.map mval)[k]? = some (mval t) := by rw [List.getElem?_map, ht]; rfl
    rw [← h3, List.getElem?_take, if_pos (by simp; omega)] at e
    rw [← e]; simp
theorem MKs.next {w wr w1 w5 : World} {v v' : Value} {T : List Mk3} {t : Mk3} {ob : Obj} (h : MKs w wr v T) (b : Below wr.heap.size wr w1) (hg : wr.heap.size ≤ t.g) (hm : MBk w1 t) (gr : (w1.alloc ob).grownBy w5 v.ownBlock) (hat : v'.ownBlock = v.ownBlock ∨ v'.ownBlock = some (w1.alloc ob).heap.size) (ow : w5.ownsRow w.heap.size 67 1 v' (T.length + 1) (T.map mval ++ [mval t])) : MKs w w5 v' (T ++ [t]) := by
  have M1 := h.below b
  have gl := hm.lt
  have ns : v.ownBlock ≠ some t.g := fun e => by have := (h.own.lt t.g e).2; omega
  have vb : ∀ u : Mk3, v.ownBlock ≠ some u.g → u.g < w1.heap.size → v'.ownBlock ≠ some u.g := fun u h1 h2 => by
    rcases hat with e | e
    · rw [e]; exact h1
    · rw [e]; intro e2; have e3 := Option.some.inj e2; simp at e3; omega
  have kb : ∀ u : Mk3, v.ownBlock ≠ some u.g → MBk w1 u → MBk w5 u := fun u h1 h2 => by
    have l := h2.lt
    exact h2.blk ((gr.block u.g (by simp; omega) (fun e => h1 e.symm)).trans (Below.heap_alloc w1 ob u.g l))
  have zz := b.size
  have z0 := h.b.size
  refine ⟨rs_grown (M1.b.alloc (by omega) ob) gr (M1.own.alloc ob) (by simp; omega), by rw [List.map_append, List.length_append]; exact ow, fun u hu => ?_⟩
  rcases List.mem_append.1 hu with hu | hu
  · obtain ⟨h1, h2, h3⟩ := M1.bl u hu
    exact ⟨h1, vb u h2 h3.lt, kb u h2 h3⟩
  · rw [List.mem_singleton] at hu
    subst hu
    exact ⟨by omega, vb u ns gl, kb u ns hm⟩
theorem run_cut {T e : TypeId} {sz : Nat} (hT : Try.prog.underlying T = some (.slice e)) (hz : ∀ w, (sizeOf e).run Try.prog w = .ok sz w) (a : Option Addr) (n c m : Nat) (h : m ≤ c) (hs : c ≤ 9223372036854775807) (w : World) : (Instr.slice T (.slice a n c) none (some (.int .i64 (m : Int))) none).run Try.prog w = .ok (.slice a m c) w := by
  cases a <;> simp [Instr.slice, run_underlying hT, Instr.sliceBounds, Instr.sliceBound, asIntOf, go_sem, h, hz]
theorem Try.undBt : Try.prog.underlying 35 = some (.slice 24) := by kernel_rfl
theorem Try.undCC : Try.prog.underlying 36 = some (.slice 39) := by kernel_rfl
theorem Try.undIn : Try.prog.underlying 39 = some (.slice 2) := by kernel_rfl
theorem Try.undMM : Try.prog.underlying 66 = some (.slice 67) := by kernel_rfl
theorem rs_int_info : (Try.prog.info? 2).map (fun i => (i.zero.map (fun z => z.cells.size), i.size, i.bytes)) = some (some 1, 1, 8) := by kernel_rfl
theorem rs_sl_info : (Try.prog.info? 67).map (fun i => (i.zero.map (fun z => z.cells.size), i.size, i.bytes)) = some (some 1, 1, 24) := by kernel_rfl
theorem rs_info {e : TypeId} {size bytes k : Nat} (h : (Try.prog.info? e).map (fun i => (i.zero.map (fun z => z.cells.size), i.size, i.bytes)) = some (some k, size, bytes)) :
    ∃ i z, Try.prog.info? e = some i ∧ i.zero = some z ∧ i.size = size ∧ i.bytes = bytes ∧ z.cells.size = k := by
  obtain ⟨i, hi, hzz⟩ := Option.map_eq_some_iff.1 h
  simp only [Prod.mk.injEq] at hzz
  obtain ⟨z, hz, hk⟩ := Option.map_eq_some_iff.1 hzz.1
  exact ⟨i, z, hi, hz, hzz.2.1, hzz.2.2, hk⟩
theorem firstE_succ {L : List Bt} {k : Nat} {t : Bt} (h : L[k]? = some t) (h0 : firstE (L.take k) = 0) : firstE (L.take (k + 1)) = chkB t := by
  have key : ∀ (A : List Bt), firstE A = 0 → firstE (A ++ [t]) = chkB t := by
    intro A
    induction A with
    | nil => intro _; show (if chkB t = 0 then 0 else chkB t) = chkB t; split <;> omega
    | cons a A ih =>
      intro h
      simp only [firstE] at h
      show (if chkB a = 0 then firstE (A ++ [t]) else chkB a) = chkB t
      split at h
      · rename_i g; rw [if_pos g]; exact ih h
      · rename_i g; exact absurd h g
  rw [List.take_add_one, h]; exact key _ h0
theorem firstE_stop {L : List Bt} {k : Nat} (h : firstE (L.take k) ≠ 0) : firstE L = firstE (L.take k) := by
  have key : ∀ (A B : List Bt), firstE A ≠ 0 → firstE (A ++ B) = firstE A := by
    intro A B
    induction A with
    | nil => intro h; exact absurd rfl h
    | cons a A ih =>
      intro h
      simp only [firstE] at h
      show (if chkB a = 0 then firstE (A ++ B) else chkB a) = (if chkB a = 0 then firstE A else chkB a)
      split at h
      · rename_i g; rw [if_pos g, if_pos g]; exact ih h
      · rename_i g; rw [if_neg g, if_neg g]
  conv => lhs; rw [← List.take_append_drop k L]
  exact key _ _ h
theorem chk_zero {t : Bt} (h : chkB t = 0) : 1 ≤ t.e ∧ t.e ≤ 16384 := by
  unfold chkB chk chkN at h
  split at h
  · split at h
    · omega
    · omega
  · omega
theorem firstE_ok {L : List Bt} (h : firstE L = 0) : ∀ t ∈ L, chkB t = 0 := by
  induction L with
  | nil => intro t ht; cases ht
  | cons a L ih =>
    simp only [firstE] at h
    split at h
    · rename_i g
      intro t ht
      rcases List.mem_cons.1 ht with rfl | ht
      · exact g
      · exact ih h t ht
    · rename_i g; exact absurd h g
theorem ret2v' {v : Value} {e e' : Int} (h : e = e') : Ending.returned (.tuple #[v, .int .i64 e]) = .returned (.tuple #[v, .int .i64 e']) := by rw [h]
theorem owns_nil2 {w : World} {B : Nat} {l : List Int} (h : l = []) : w.ownsRow B 2 1 (.slice none 0 0) l.length (rints l) := by subst h; exact World.ownsRow_nil _ _ _ _
/-- the marks of the first k beats -/
def mkT (B : List Bt) (LL : List (List Int)) (off : Int) (T : List Mk3) (k : Nat) : Prop :=
  T.length = k ∧ ∀ (j : Nat) t b C, T[j]? = some t → B[j]? = some b → LL[j]? = some C → t.E = b.e.toNat ∧ ∀ x, x < t.E → t.f x = mk b.e.toNat (min off b.e) C x
end Go.Proofs.Ytdngkeefbpffcaa
