import Derived.Test.YtdngkeefbpffcaaPlD2
import Derived.Test.YtdngkeefbpffcaaFlS
import Derived.Test.YtdngkeefbpffcaaFlG
import Derived.Maps.AppendAt
import Derived.Laws.OwnMore
set_option autoImplicit false
set_option linter.unusedVariables false
namespace Go.Proofs.Ytdngkeefbpffcaa
open Go.RowKit Go.ChangeShapes Go.WideShapes Go.ChangeAt Lk Pl
set_option maxRecDepth 100000 in
/-- an argument of plots, read -/
theorem sp_arg {W : World} {base : Nat} {v : Value} (h1 : Value.okWide Try.prog W .any base 47 v) (h2 : Rd Try.prog W 47 v.cells.toList) : ∃ a n cap l, v = .slice a n cap ∧ Sp W a n cap l ∧ ∀ q, a = some q → q.block < W.heap.size ∨ n = 0 := by
  have und : Try.prog.underlying 47 = some (.slice 28) := by kernel_rfl
  have nl : ∃ (a : Option Addr) (len cap : Nat), v.cells.toList = [.slice a len cap] ∧ (a = none → cap = 0) := by
    rcases rd_slice und (by rw [show Try.prog.cellsOf 28 = 5 by kernel_rfl]; omega) h2 with h | ⟨a, len, cap, h, _⟩
    · exact ⟨none, 0, 0, h, fun _ => rfl⟩
    · exact ⟨some a, len, cap, h, fun e => by cases e⟩
  obtain ⟨a2, n2, c2, hv2, hnil⟩ := nl
  obtain ⟨ao, len, cap, hv, g1, g2, g3⟩ := rd_row (P := Try.prog) (t := 47) (e := 28) (n := 5) und (by kernel_rfl) (by decide) h2
  obtain ⟨a1, n1, c1, rfl⟩ := Go.WideShapes.okWide_slice und h1
  obtain ⟨rfl, rfl, rfl⟩ : a1 = a2 ∧ n1 = n2 ∧ c1 = c2 := by simpa [Value.cells] using hv2
  obtain ⟨rfl, rfl, rfl⟩ : a1 = ao ∧ n1 = len ∧ c1 = cap := by simpa [Value.cells] using hv
  rcases g3 with h0 | ⟨b, off, hb, rfl, hc⟩
  · exact ⟨a1, n1, c1, [], rfl, ⟨by rw [h0]; rfl, g1, by unfold maxLen at g2; omega, fun s hs => by simp at hs, .inl h0, hnil⟩, fun _ _ => .inr h0⟩
  · have key : ∀ i, ∃ p : Pt, (i < n1 → AtP W b (off + i * 5) p) ∧ PtLt p := by
      intro i
      by_cases hi : i < n1
      · obtain ⟨cs, hl, hcell, hr⟩ := hc i hi
        obtain ⟨_, hf⟩ := rd_struct (P := Try.prog) (t := 28) Try.underlying28 hr
        match cs, hl with
        | [c0, c1, c2, c3, c4], _ =>
          have d : Try.prog.cellsOf 22 = 1 := by kernel_rfl
          obtain ⟨x0, e0, y0⟩ := rd_float Try.underlying22 (by simpa using hf 0 _ rfl)
          obtain ⟨x1, e1, y1⟩ := rd_float Try.underlying22 (by simpa using hf 1 _ rfl)
          obtain ⟨x2, e2, y2⟩ := rd_float Try.underlying22 (by simpa using hf 2 _ rfl)
          obtain ⟨x3, e3, y3⟩ := rd_float Try.underlying22 (by simpa using hf 3 _ rfl)
          obtain ⟨x4, e4, y4⟩ := rd_float Try.underlying22 (by simpa using hf 4 _ rfl)
          obtain rfl : c0 = .float .f64 x0 := by simpa [d] using e0
          obtain rfl : c1 = .float .f64 x1 := by simpa [d] using e1
          obtain rfl : c2 = .float .f64 x2 := by simpa [d] using e2
          obtain rfl : c3 = .float .f64 x3 := by simpa [d] using e3
          obtain rfl : c4 = .float .f64 x4 := by simpa [d] using e4
          refine ⟨⟨x0, x1, x2, x3, x4⟩, fun _ => ⟨?_, ?_, ?_, ?_, ?_⟩, ⟨y0, y1, y2, y3, y4⟩⟩
          · have := hcell 0 (by decide); rwa [← Nat.add_assoc] at this
          · have := hcell 1 (by decide); rwa [← Nat.add_assoc] at this
          · have := hcell 2 (by decide); rwa [← Nat.add_assoc] at this
          · have := hcell 3 (by decide); rwa [← Nat.add_assoc] at this
          · have := hcell 4 (by decide); rwa [← Nat.add_assoc] at this
      · exact ⟨⟨0, 0, 0, 0, 0⟩, fun h => absurd h hi, ⟨by decide, by decide, by decide, by decide, by decide⟩⟩
    obtain ⟨f, hf⟩ := Classical.axiomOfChoice key
    refine ⟨_, n1, c1, (List.range n1).map f, rfl, ⟨by simp, g1, by unfold maxLen at g2; omega, fun s hs => ?_, .inr ⟨b, off, rfl, hb, fun j hj => ?_⟩, hnil⟩, fun q hq => by cases hq; exact .inl hb⟩
    · obtain ⟨j, _, rfl⟩ := List.mem_map.1 hs
      exact (hf j).2
    · have hj' : j < n1 := by simpa using hj
      rw [List.getElem_map, List.getElem_range]
      exact (hf j).1 hj'
end Go.Proofs.Ytdngkeefbpffcaa

set_option autoImplicit false
set_option linter.unusedVariables false
namespace Lk
open Go Go.RowKit
/-! own rows side by side, any number of them -/
structure Rw where
  t : TypeId
  c : Nat
  n : Nat
  v : Value
  xs : List Value
def Dj (v u : Value) : Prop := ∀ g, v.ownBlock = some g → u.ownBlock ≠ some g
theorem Dj.symm {v u : Value} (h : Dj v u) : Dj u v := fun g h1 h2 => h g h2 h1
structure Rowss (w0 w : World) (F : List Rw) : Prop where
  b : Below w0.heap.size w0 w
  own : ∀ r ∈ F, w.ownsRow w0.heap.size r.t r.c r.v r.n r.xs
  dj : F.Pairwise fun a b => Dj a.v b.v
theorem own_blocks {w w' : World} {B E sz n : Nat} {v : Value} {xs : List Value} (h : w.ownsRow B E sz v n xs) (e : ∀ g, v.ownBlock = some g → w'.heap[g]? = w.heap[g]?) : w'.ownsRow B E sz v n xs := by
  rcases h with ⟨h0, h1 | ⟨g, cap, cur, rfl, h2, h3, h4⟩⟩
  · exact ⟨h0, .inl h1⟩
  · exact ⟨h0, .inr ⟨g, cap, cur, rfl, h2, (e g rfl).trans h3, h4⟩⟩
theorem Rowss.nil {w0 w : World} (b : Below w0.heap.size w0 w) : Rowss w0 w [] := ⟨b, (fun r h => by cases h), List.Pairwise.nil⟩
theorem Rowss.below {w0 w w' : World} {F : List Rw} (h : Rowss w0 w F) (b : Below w.heap.size w w') : Rowss w0 w' F :=
  ⟨h.b.trans (b.mono h.b.size), fun r hr => own_blocks (h.own r hr) fun g hg => b.block g ((h.own r hr).lt g hg).2, h.dj⟩
theorem Rowss.perm {w0 w : World} {F F' : List Rw} (h : Rowss w0 w F) (p : F.Perm F') : Rowss w0 w F' :=
  ⟨h.b, fun r hr => h.own r (p.mem_iff.2 hr), h.dj.perm p fun h => h.symm⟩
/-- the first one is grown -/
theorem Rowss.grow1 {w0 w w' : World} {r : Rw} {F : List Rw} {n' : Nat} {v' : Value} {xs' : List Value} (h : Rowss w0 w (r :: F)) (gr : w.grownBy w' r.v.ownBlock) (ow : w'.ownsRow w0.heap.size r.t r.c v' n' xs') (hat : v'.ownBlock = r.v.ownBlock ∨ v'.ownBlock = some w.heap.size) : Rowss w0 w' (⟨r.t, r.c, n', v', xs'⟩ :: F) := by
  have hr := h.own r (by simp)
  have d := List.pairwise_cons.1 h.dj
  refine ⟨h.b.trans ⟨gr.os, gr.tape, gr.output, gr.size, fun i hi => gr.block i (by have := h.b.size; omega) fun e => ?_⟩, fun q hq => ?_, List.pairwise_cons.2 ⟨fun q hq g hg => ?_, d.2⟩⟩
  · have := (hr.lt i e.symm).1; omega
  · rcases List.mem_cons.1 hq with rfl | hq
    · exact ow
    · have hq1 := h.own q (by simp [hq])
      exact own_blocks hq1 fun g hg => gr.block g (hq1.lt g hg).2 fun e => d.1 q hq g e.symm hg
  · have hq1 := h.own q (by simp [hq])
    simp only at hg
    rcases hat with e | e
    · rw [e] at hg; exact d.1 q hq g hg
    · rw [e] at hg
      have e2 := Option.some.inj hg
      intro hg2
      have := (hq1.lt g hg2).2
      omega
theorem Rowss.grow {w0 w w' : World} {r : Rw} {A F : List Rw} {n' : Nat} {v' : Value} {xs' : List Value} (h : Rowss w0 w (A ++ r :: F)) (gr : w.grownBy w' r.v.ownBlock) (ow : w'.ownsRow w0.heap.size r.t r.c v' n' xs') (hat : v'.ownBlock = r.v.ownBlock ∨ v'.ownBlock = some w.heap.size) : Rowss w0 w' (A ++ ⟨r.t, r.c, n', v', xs'⟩ :: F) :=
  ((h.perm List.perm_middle).grow1 gr ow hat).perm List.perm_middle.symm
/-- a new one, in a block that is new -/
theorem Rowss.new1 {w0 w : World} {F : List Rw} {r : Rw} {ob : Obj} (h : Rowss w0 w F) (ow : (w.alloc ob).ownsRow w0.heap.size r.t r.c r.v r.n r.xs) (hv : r.v.ownBlock = some w.heap.size) : Rowss w0 (w.alloc ob) (r :: F) := by
  have hb := h.below ((Below.refl w.heap.size w).alloc (Nat.le_refl _) ob)
  refine ⟨hb.b, fun q hq => ?_, List.pairwise_cons.2 ⟨fun q hq g hg hg2 => ?_, hb.dj⟩⟩
  · rcases List.mem_cons.1 hq with rfl | hq
    · exact ow
    · exact hb.own q hq
  · rw [hv] at hg
    have e2 := Option.some.inj hg
    have := ((h.own q hq).lt g hg2).2
    omega
/-- one that has no block yet -/
theorem Rowss.none1 {w0 w : World} {F : List Rw} (h : Rowss w0 w F) (t : TypeId) (c : Nat) : Rowss w0 w (⟨t, c, 0, .slice none 0 0, []⟩ :: F) :=
  ⟨h.b, fun q hq => by
    rcases List.mem_cons.1 hq with rfl | hq
    · exact World.ownsRow_nil _ _ _ _
    · exact h.own q hq, List.pairwise_cons.2 ⟨(fun q _ g hg => by cases hg), h.dj⟩⟩
theorem Rowss.drop1 {w0 w : World} {F : List Rw} {r : Rw} (h : Rowss w0 w (r :: F)) : Rowss w0 w F :=
  ⟨h.b, fun q hq => h.own q (by simp [hq]), (List.pairwise_cons.1 h.dj).2⟩
theorem own_form' {w : World} {B t c n : Nat} {v : Value} {xs : List Value} (h : w.ownsRow B t c v n xs) : ∃ a cap, v = .slice a n cap ∧ n ≤ cap ∧ cap ≤ 9223372036854775807 := by
  rcases h.2 with ⟨rfl, h0⟩ | ⟨g, cap, cur, rfl, hB, hb, h1, h2, _, h3⟩
  · exact ⟨_, _, by rw [h0], by omega, by omega⟩
  · exact ⟨_, _, rfl, h1, by unfold maxLen at h2; omega⟩
theorem own_one {w : World} {g B : Nat} {x : Value} {t : TypeId} (h : w.heap[g]? = some (.cells #[x] t (0, 0))) (hB : B ≤ g) (h1 : x.oneCell' = true) : w.ownsRow B t 1 (.slice (some ⟨g, 0, none⟩) 1 1) 1 [x] :=
  ⟨rfl, .inr ⟨g, 1, #[x], rfl, hB, h, Nat.le_refl _, by unfold maxLen; omega, rfl, rfl⟩⟩
end Lk
