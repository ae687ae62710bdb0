import Derived.Test.YtdngkeefbpffcaaPlT
import Derived.Test.YtdngkeefbpffcaaFlL
import Derived.ProofKit
import Derived.OpenShut
import Derived.Test.YtdngkeefbpffcaaFlG
import Derived.Maps.AppendAt
import Derived.Laws.OwnMore
set_option autoImplicit false
set_option linter.unusedVariables false
namespace Go.Proofs.Ytdngkeefbpffcaa
open Go.RowKit Go.ChangeShapes Go.WideShapes Go.ChangeAt Lk Pl
set_option maxRecDepth 100000 in
theorem beat_of {w : World} {base : Nat} {u : Value} (h : Value.okWide Try.prog w .any base 24 u) :
    ∃ (c v r : Nat) (e n : Int), u = btv c v r e n ∧ c < 2 ^ 64 ∧ v < 2 ^ 64 ∧ r < 2 ^ 64 ∧ -9223372036854775808 ≤ e ∧ e ≤ 9223372036854775807 ∧ -9223372036854775808 ≤ n ∧ n ≤ 9223372036854775807 := by
  obtain ⟨⟨cs⟩, rfl, hs, hc⟩ := ok_agg (P := Try.prog) (t := 24) (ts := [22, 22, 22, 3, 3]) (by kernel_rfl) (by kernel_rfl) (by kernel_rfl) h
  match cs, hs with
  | [v0, v1, v2, v3, v4], _ =>
    obtain ⟨c, rfl, g1⟩ := cell_float (P := Try.prog) Try.underlying22 (hc 0 v0 22 rfl rfl)
    obtain ⟨v, rfl, g2⟩ := cell_float (P := Try.prog) Try.underlying22 (hc 1 v1 22 rfl rfl)
    obtain ⟨r, rfl, g3⟩ := cell_float (P := Try.prog) Try.underlying22 (hc 2 v2 22 rfl rfl)
    obtain ⟨e, rfl, b1, b2⟩ := cell_int (P := Try.prog) Try.underlying3 (hc 3 v3 3 rfl rfl)
    obtain ⟨n, rfl, b3, b4⟩ := cell_int (P := Try.prog) Try.underlying3 (hc 4 v4 3 rfl rfl)
    exact ⟨c, v, r, e, n, rfl, g1, g2, g3, b1, b2, b3, b4⟩
set_option maxRecDepth 100000 in
theorem centre_of {w : World} {base : Nat} {u : Value} (h : Value.okWide Try.prog w .any base 26 u) :
    ∃ (b g p : Nat) (n : Int), u = .agg #[.float .f64 b, .float .f64 g, .float .f64 p, .int .i64 n] ∧ b < 2 ^ 64 ∧ g < 2 ^ 64 ∧ p < 2 ^ 64 := by
  obtain ⟨⟨cs⟩, rfl, hs, hc⟩ := ok_agg (P := Try.prog) (t := 26) (ts := [22, 22, 22, 3]) (by kernel_rfl) (by kernel_rfl) (by kernel_rfl) h
  match cs, hs with
  | [v0, v1, v2, v3], _ =>
    obtain ⟨c, rfl, g1⟩ := cell_float (P := Try.prog) Try.underlying22 (hc 0 v0 22 rfl rfl)
    obtain ⟨v, rfl, g2⟩ := cell_float (P := Try.prog) Try.underlying22 (hc 1 v1 22 rfl rfl)
    obtain ⟨r, rfl, g3⟩ := cell_float (P := Try.prog) Try.underlying22 (hc 2 v2 22 rfl rfl)
    obtain ⟨e, rfl, b1, b2⟩ := cell_int (P := Try.prog) Try.underlying3 (hc 3 v3 3 rfl rfl)
    exact ⟨c, v, r, e, rfl, g1, g2, g3⟩
theorem Try.own : ownKnob Try.prog.godebug = none := by kernel_rfl
theorem Try.laidOut : laidOutB Try.prog = true := by kernel_rfl
end Go.Proofs.Ytdngkeefbpffcaa

set_option autoImplicit false
set_option linter.unusedVariables false
namespace Lk
open Go Go.RowKit
/-! own rows side by side, any number of them -/
structure Rw where
  t : TypeId
  c : Nat
  n : Nat
  v : Value
  xs : List Value
def Dj (v u : Value) : Prop := ∀ g, v.ownBlock = some g → u.ownBlock ≠ some g
theorem Dj.symm {v u : Value} (h : Dj v u) : Dj u v := fun g h1 h2 => h g h2 h1
structure Rowss (w0 w : World) (F : List Rw) : Prop where
  b : Below w0.heap.size w0 w
  own : ∀ r ∈ F, w.ownsRow w0.heap.size r.t r.c r.v r.n r.xs
  dj : F.Pairwise fun a b => Dj a.v b.v
theorem own_blocks {w w' : World} {B E sz n : Nat} {v : Value} {xs : List Value} (h : w.ownsRow B E sz v n xs) (e : ∀ g, v.ownBlock = some g → w'.heap[g]? = w.heap[g]?) : w'.ownsRow B E sz v n xs := by
  rcases h with ⟨h0, h1 | ⟨g, cap, cur, rfl, h2, h3, h4⟩⟩
  · exact ⟨h0, .inl h1⟩
  · exact ⟨h0, .inr ⟨g, cap, cur, rfl, h2, (e g rfl).trans h3, h4⟩⟩
theorem Rowss.nil {w0 w : World} (b : Below w0.heap.size w0 w) : Rowss w0 w [] := ⟨b, (fun r h => by cases h), List.Pairwise.nil⟩
theorem Rowss.below {w0 w w' : World} {F : List Rw} (h : Rowss w0 w F) (b : Below w.heap.size w w') : Rowss w0 w' F :=
  ⟨h.b.trans (b.mono h.b.size), fun r hr => own_blocks (h.own r hr) fun g hg => b.block g ((h.own r hr).lt g hg).2, h.dj⟩
theorem Rowss.perm {w0 w : World} {F F' : List Rw} (h : Rowss w0 w F) (p : F.Perm F') : Rowss w0 w F' :=
  ⟨h.b, fun r hr => h.own r (p.mem_iff.2 hr), h.dj.perm p fun h => h.symm⟩
/-- the first one is grown -/
theorem Rowss.grow1 {w0 w w' : World} {r : Rw} {F : List Rw} {n' : Nat} {v' : Value} {xs' : List Value} (h : Rowss w0 w (r :: F)) (gr : w.grownBy w' r.v.ownBlock) (ow : w'.ownsRow w0.heap.size r.t r.c v' n' xs') (hat : v'.ownBlock = r.v.ownBlock ∨ v'.ownBlock = some w.heap.size) : Rowss w0 w' (⟨r.t, r.c, n', v', xs'⟩ :: F) := by
  have hr := h.own r (by simp)
  have d := List.pairwise_cons.1 h.dj
  refine ⟨h.b.trans ⟨gr.os, gr.tape, gr.output, gr.size, fun i hi => gr.block i (by have := h.b.size; omega) fun e => ?_⟩, fun q hq => ?_, List.pairwise_cons.2 ⟨fun q hq g hg => ?_, d.2⟩⟩
  · have := (hr.lt i e.symm).1; omega
  · rcases List.mem_cons.1 hq with rfl | hq
    · exact ow
    · have hq1 := h.own q (by simp [hq])
      exact own_blocks hq1 fun g hg => gr.block g (hq1.lt g hg).2 fun e => d.1 q hq g e.symm hg
  · have hq1 := h.own q (by simp [hq])
    simp only at hg
    rcases hat with e | e
    · rw [e] at hg; exact d.1 q hq g hg
    · rw [e] at hg
      have e2 := Option.some.inj hg
      intro hg2
      have := (hq1.lt g hg2).2
      omega
theorem Rowss.grow {w0 w w' : World} {r : Rw} {A F : List Rw} {n' : Nat} {v' : Value} {xs' : List Value} (h : Rowss w0 w (A ++ r :: F)) (gr : w.grownBy w' r.v.ownBlock) (ow : w'.ownsRow w0.heap.size r.t r.c v' n' xs') (hat : v'.ownBlock = r.v.ownBlock ∨ v'.ownBlock = some w.heap.size) : Rowss w0 w' (A ++ ⟨r.t, r.c, n', v', xs'⟩ :: F) :=
  ((h.perm List.perm_middle).grow1 gr ow hat).perm List.perm_middle.symm
/-- a new one, in a block that is new -/
theorem Rowss.new1 {w0 w : World} {F : List Rw} {r : Rw} {ob : Obj} (h : Rowss w0 w F) (ow : (w.alloc ob).ownsRow w0.heap.size r.t r.c r.v r.n r.xs) (hv : r.v.ownBlock = some w.heap.size) : Rowss w0 (w.alloc ob) (r :: F) := by
  have hb := h.below ((Below.refl w.heap.size w).alloc (Nat.le_refl _) ob)
  refine ⟨hb.b, fun q hq => ?_, List.pairwise_cons.2 ⟨fun q hq g hg hg2 => ?_, hb.dj⟩⟩
  · rcases List.mem_cons.1 hq with rfl | hq
    · exact ow
    · exact hb.own q hq
  · rw [hv] at hg
    have e2 := Option.some.inj hg
    have := ((h.own q hq).lt g hg2).2
    omega
/-- one that has no block yet -/
theorem Rowss.none1 {w0 w : World} {F : List Rw} (h : Rowss w0 w F) (t : TypeId) (c : Nat) : Rowss w0 w (⟨t, c, 0, .slice none 0 0, []⟩ :: F) :=
  ⟨h.b, fun q hq => by
    rcases List.mem_cons.1 hq with rfl | hq
    · exact World.ownsRow_nil _ _ _ _
    · exact h.own q hq, List.pairwise_cons.2 ⟨(fun q _ g hg => by cases hg), h.dj⟩⟩
theorem Rowss.drop1 {w0 w : World} {F : List Rw} {r : Rw} (h : Rowss w0 w (r :: F)) : Rowss w0 w F :=
  ⟨h.b, fun q hq => h.own q (by simp [hq]), (List.pairwise_cons.1 h.dj).2⟩
theorem own_form' {w : World} {B t c n : Nat} {v : Value} {xs : List Value} (h : w.ownsRow B t c v n xs) : ∃ a cap, v = .slice a n cap ∧ n ≤ cap ∧ cap ≤ 9223372036854775807 := by
  rcases h.2 with ⟨rfl, h0⟩ | ⟨g, cap, cur, rfl, hB, hb, h1, h2, _, h3⟩
  · exact ⟨_, _, by rw [h0], by omega, by omega⟩
  · exact ⟨_, _, rfl, h1, by unfold maxLen at h2; omega⟩
theorem own_one {w : World} {g B : Nat} {x : Value} {t : TypeId} (h : w.heap[g]? = some (.cells #[x] t (0, 0))) (hB : B ≤ g) (h1 : x.oneCell' = true) : w.ownsRow B t 1 (.slice (some ⟨g, 0, none⟩) 1 1) 1 [x] :=
  ⟨rfl, .inr ⟨g, 1, #[x], rfl, hB, h, Nat.le_refl _, by unfold maxLen; omega, rfl, rfl⟩⟩
end Lk
