import Derived.Test.YteejnfjlfoeblaaPnU
import Derived.Test.YteejnfjlfoeblaaPnS
import Derived.Test.YteejnfjlfoeblaaPnD
import Derived.Test.YteejnfjlfoeblaaFlO
import Derived.Laws.MakeOwn
import Derived.Laws.OwnMore
set_option autoImplicit false
set_option linter.unusedVariables false
namespace Go.Proofs.Yteejnfjlfoeblaa
open Go.RowKit Lk Pn
def tkc (t : Tk) : Array Value := #[.int .i64 t.ev, .int .i64 t.lg, .int .i64 t.rk]
theorem tkc_one (t : Tk) : (tkc t).all (·.oneCell') = true := by simp [tkc, Value.oneCell']
theorem PAx.setT {Y : Ly} {w w2 : World} {S : Nat → Prop} {p lb cap : Nat} {vs : List Value} {st : Pl} (h : PAx Y w S p lb cap vs st) {k : Nat} {x : Ln} (hx : st.l[k]? = some x) (t : Tk) {cur : Array Value} (hc : w.heap[lb]? = some (.cells cur Y.tl (0, 0)))
    (h2 : w2.heap[lb]? = some (.cells (putAll cur (k * 6) (tkc t).toList) Y.tl (0, 0))) (on : Only lb w w2) : PAx Y w2 S p lb cap vs ⟨st.l.set k { x with t := t }, st.now⟩ := by
  obtain ⟨v, hv, A, W⟩ := h.ln hx
  have q := h.turn (w' := w2) (S' := S) (x' := { x with t := t }) (v' := v) hx hv ?_ (W.of_block fun g hg => on.block g (h.sv k v g hv hg).2.2) (fun g hg => .inl hg) (fun i _ hi _ => on.block i hi) (fun _ h => h) (fun i hi => by rw [on.size]; exact h.inS i hi)
  · rwa [set_same hv] at q
  · obtain ⟨cur0, e1, e2⟩ := h.bl
    rw [hc] at e1
    cases e1
    obtain ⟨a, b, c, d, e, f⟩ := e2 k x v hx hv
    have hs : k * 6 + 6 ≤ cur.size := by have := (Array.getElem?_eq_some_iff.1 f).1; omega
    have get : ∀ i, (putAll cur (k * 6) (tkc t).toList)[i]? = if k * 6 ≤ i ∧ i < k * 6 + 3 then (tkc t).toList[i - k * 6]? else cur[i]? := fun i => putAll_get _ _ _ _ (by simp [tkc]; omega)
    refine ⟨cur, _, hc, h2, fun o ho => by rw [get, if_neg (by omega)], ?_⟩
    constructor <;> rw [get]
    · rw [if_pos (by omega)]; simp [tkc]
    · rw [if_pos (by omega)]; simp [tkc]
    · rw [if_pos (by omega)]; simp [tkc]
    · rw [if_neg (by omega)]; exact d
    · rw [if_neg (by omega)]; exact e
    · rw [if_neg (by omega)]; exact f
/-- a slice of tasks -/
structure At3 (w : World) (b o : Nat) (t : Tk) : Prop where
  c0 : w.cell? ⟨b, o, none⟩ = some (.int .i64 t.ev)
  c1 : w.cell? ⟨b, o + 1, none⟩ = some (.int .i64 t.lg)
  c2 : w.cell? ⟨b, o + 2, none⟩ = some (.int .i64 t.rk)
theorem At3.of_block {w w' : World} {b o : Nat} {t : Tk} (h : At3 w b o t) (e : w'.heap[b]? = w.heap[b]?) : At3 w' b o t :=
  ⟨(World.cell?_of_block e).trans h.c0, (World.cell?_of_block e).trans h.c1, (World.cell?_of_block e).trans h.c2⟩
structure Ts (w : World) (a : Option Addr) (n cap : Nat) (L : List Tk) : Prop where
  len : L.length = n
  le : n ≤ cap
  small : cap ≤ 9223372036854775807
  cells : n = 0 ∨ ∃ b off, a = some ⟨b, off, none⟩ ∧ b < w.heap.size ∧ ∀ (j : Nat) t, L[j]? = some t → At3 w b (off + j * 3) t
theorem Ts.keep {w w' : World} {a : Option Addr} {n cap : Nat} {L : List Tk} (h : Ts w a n cap L) (b : Below w.heap.size w w') : Ts w' a n cap L :=
  ⟨h.len, h.le, h.small, h.cells.imp id fun ⟨g, off, ha, hg, hc⟩ => ⟨g, off, ha, Nat.lt_of_lt_of_le hg b.size, fun j t ht => (hc j t ht).of_block (b.block g hg)⟩⟩
theorem Ts.at {w : World} {a : Option Addr} {n cap : Nat} {L : List Tk} (h : Ts w a n cap L) {k : Nat} (hk : k < n) : ∃ b off t, a = some ⟨b, off, none⟩ ∧ b < w.heap.size ∧ L[k]? = some t ∧ At3 w b (off + k * 3) t := by
  rcases h.cells with h0 | ⟨b, off, ha, hb, hc⟩
  · omega
  · have hl : k < L.length := by rw [h.len]; exact hk
    exact ⟨b, off, L[k], ha, hb, List.getElem?_eq_getElem hl, hc k _ (List.getElem?_eq_getElem hl)⟩
/-! Set -/
end Go.Proofs.Yteejnfjlfoeblaa
