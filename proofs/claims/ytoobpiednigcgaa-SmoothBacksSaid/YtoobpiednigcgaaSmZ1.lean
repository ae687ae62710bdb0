import Derived.Test.YtoobpiednigcgaaSmW
import Derived.Test.YtoobpiednigcgaaSmU1
import Derived.Laws.MakeOwn
set_option autoImplicit false
set_option linter.unusedVariables false
namespace Go.Proofs.Ytoobpiednigcgaa
open Go.RowKit Lk
theorem rmay_b (s : St) (b : Bool) (hb : mayF s = b) (w : World) : Calls Try.prog 33 #[sv5 s] w (fun e w' => e = .returned (.bool b) ∧ Below w.heap.size w w') := by
  subst hb; exact rmay_walk s.x s.v s.pxx s.pxv s.pvv w
theorem fin_step {s n : St} {dt q : Nat} (h : finS s = true) : finS (stepF s dt q n) = true := by
  unfold stepF
  split
  · split
    · assumption
    · exact h
  · exact h
theorem may_finS {s : St} (h : mayF s = true) : finS s = true := by
  unfold mayF at h; unfold finS
  simp only [Bool.and_eq_true] at h ⊢
  exact h.1.1
theorem step_eq (s nx : St) (dt q : Nat) (w : World) (hl : St.Lt s) (hm : mayF s = true) :
    Calls Try.prog 35 #[sv5 s, .float .f64 dt, .float .f64 q, sv5 nx] w (fun e w' => e = .returned (sv5 (stepF s dt q nx)) ∧ Below w.heap.size w w') :=
  (step_walk s nx dt q w hl).mono fun e w' ⟨o, he, hi, _, hb⟩ => ⟨by rw [he, hi.eq (fin_step (may_finS hm))], hb⟩
def TSt (s nx : St) (dt q : Nat) (f : FuncId) (args : Array Value) (u : Value) (w : World) : Prop := f = 35 → u = sv5 (stepF s dt q nx)
theorem tst {s nx : St} {dt q : Nat} (hl : St.Lt s) (hm : mayF s = true) (w : World) : Calls Try.prog 35 #[sv5 s, .float .f64 dt, .float .f64 q, sv5 nx] w (fun e w'' => ∃ u, e = .returned u ∧ TSt s nx dt q 35 #[sv5 s, .float .f64 dt, .float .f64 q, sv5 nx] u w'' ∧ Ext w w'') :=
  (step_eq s nx dt q w hl hm).mono fun e w' ⟨he, hb⟩ => ⟨_, he, fun _ => rfl, hb⟩
/-- a row of states, k of them filled in from behind -/
structure MKc (cur : Array Value) (N k : Nat) (L : List St) (S : List Nat) (q : Nat) : Prop where
  size : cur.size = N * 5
  got : ∀ j, j < N → N ≤ j + k → Out5 cur (j * 5) (bkF L S q (N - 1 - j))
theorem MKc.put {cur : Array Value} {N k i : Nat} {L : List St} {S : List Nat} {q : Nat} {t : St} (h : MKc cur N k L S q) (hi : i + k + 1 = N) (ht : t = bkF L S q k) : MKc (putAll cur (i * 5) (fl5 t)) N (k + 1) L S q := by
  have sz : i * 5 + 5 ≤ cur.size := by rw [h.size]; omega
  refine ⟨by rw [putAll_size, h.size], fun j hj hk => ?_⟩
  by_cases e : j = i
  · subst e
    rw [show N - 1 - j = k by omega, ← ht]
    exact Out5.here sz
  · exact (h.got j hj (by omega)).put (by omega) sz
def MK (w : World) (g N k : Nat) (L : List St) (S : List Nat) (q : Nat) : Prop := ∃ cur, w.heap[g]? = some (.cells cur 27 (0, 0)) ∧ MKc cur N k L S q
theorem MK.lt {w : World} {g N k : Nat} {L : List St} {S : List Nat} {q : Nat} (h : MK w g N k L S q) : g < w.heap.size := by obtain ⟨_, h, _⟩ := h; exact (Array.getElem?_eq_some_iff.1 h).1
theorem MK.out {w : World} {g N k : Nat} {L : List St} {S : List Nat} {q : Nat} (h : MK w g N N L S q) (hl : L.length = N) : OutS w g (backL L S q) := by
  obtain ⟨cur, h1, h2⟩ := h
  refine ⟨cur, h1, fun j s hj => ?_⟩
  have hjl : j < N := by
    have := (List.getElem?_eq_some_iff.1 hj).1
    unfold backL at this; rw [List.length_map, List.length_range, hl] at this; exact this
  have : s = bkF L S q (N - 1 - j) := by
    unfold backL at hj
    rw [List.getElem?_map, List.getElem?_range (by rw [hl]; exact hjl)] at hj
    rw [← hl]; exact (Option.some.inj hj).symm
  rw [this]
  exact h2.got j hjl (by omega)
theorem MK.new (w : World) (N : Nat) (L : List St) (S : List Nat) (q : Nat) : MK (w.alloc (.cells (madeCells #[.float .f64 0, .float .f64 0, .float .f64 0, .float .f64 0, .float .f64 0] (N * 5)) 27)) w.heap.size N 0 L S q :=
  ⟨_, Deep.blk_alloc_new _ _, size_madeCells _ _, fun j hj hk => by omega⟩
theorem Out5.at {w : World} {g o : Nat} {cur : Array Value} {s : St} (h : Out5 cur o s) (hc : w.heap[g]? = some (.cells cur 27 (0, 0))) : At5 w g o s :=
  ⟨(cell_of_heap hc _).trans h.c0, (cell_of_heap hc _).trans h.c1, (cell_of_heap hc _).trans h.c2, (cell_of_heap hc _).trans h.c3, (cell_of_heap hc _).trans h.c4⟩
theorem st_info5 : (Try.prog.info? 27).map (fun i => (i.zero.map (·.cells), i.size, i.bytes)) = some (some #[.float .f64 0, .float .f64 0, .float .f64 0, .float .f64 0, .float .f64 0], 5, 40) := by kernel_rfl
theorem ret_back {L : List St} {S : List Nat} {q g N : Nat} {w w' : World} (E : backE L S q = 0) (hl : L.length = N) (h : MK w' g N N L S q) (hg : w.heap.size ≤ g) (hn : N ≤ 1024) (hb : Below w.heap.size w w') :
    BackP L S q w (.returned (.tuple #[.slice (some ⟨g, 0, none⟩) N N, .int .i64 0])) w' := by
  have hlen : (backR L S q).length = N := by unfold backR; rw [if_pos E]; unfold backL; rw [List.length_map, List.length_range, hl]
  refine ⟨_, by rw [E], .inr ⟨g, N, by rw [hlen], hg, by rw [hlen]; exact Nat.le_refl _, by omega, ?_⟩, hb⟩
  unfold backR; rw [if_pos E]; exact MK.out (k := N) h hl
end Go.Proofs.Ytoobpiednigcgaa
