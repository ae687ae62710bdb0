import Derived.Test.YteejnfjlfoeblaaPnWk
import Derived.Test.YteejnfjlfoeblaaPnFe
import Derived.Test.YteejnfjlfoeblaaPnBz
import Derived.Test.YteejnfjlfoeblaaFlQ
import Derived.Test.YteejnfjlfoeblaaFlS
import Derived.Test.YteejnfjlfoeblaaFlL
import Derived.Laws.MakeOwn
import Derived.Laws.OwnMore
import Derived.Maps.AppendAt
import Derived.Deep.QuietTactic
import Derived.BigQuiet
import Derived.ProofKit
import Derived.OpenShut
import Derived.Test.YteejnfjlfoeblaaChecked
set_option autoImplicit false
set_option linter.unusedVariables false
namespace Go.Proofs.Yteejnfjlfoeblaa
open Go.RowKit Go.ChangeShapes Go.WideShapes Go.ChangeAt Lk Pn
/-- a slice of whole numbers -/
structure SI (w : World) (a : Option Addr) (n cap : Nat) (M : List Int) : Prop where
  len : M.length = n
  le : n ≤ cap
  small : cap ≤ 9223372036854775807
  cells : n = 0 ∨ ∃ b off, a = some ⟨b, off, none⟩ ∧ b < w.heap.size ∧ ∀ (j : Nat) x, M[j]? = some x → w.cell? ⟨b, off + j, none⟩ = some (.int .i64 x)
theorem SI.at {w : World} {a : Option Addr} {n cap : Nat} {M : List Int} (h : SI w a n cap M) {k : Nat} (hk : k < n) : ∃ b off x, a = some ⟨b, off, none⟩ ∧ b < w.heap.size ∧ M[k]? = some x ∧ w.cell? ⟨b, off + k, none⟩ = some (.int .i64 x) := by
  rcases h.cells with h0 | ⟨b, off, ha, hb, hc⟩
  · omega
  · have hl : k < M.length := by rw [h.len]; exact hk
    exact ⟨b, off, M[k], ha, hb, List.getElem?_eq_getElem hl, hc k _ (List.getElem?_eq_getElem hl)⟩
set_option maxRecDepth 100000 in
theorem si_arg {W : World} {base : Nat} {v : Value} (h1 : Value.okWide Try.prog W .any base 22 v) (h2 : Rd Try.prog W 22 v.cells.toList) : ∃ a n cap M, v = .slice a n cap ∧ SI W a n cap M := by
  have und : Try.prog.underlying 22 = some (.slice 3) := by kernel_rfl
  obtain ⟨ao, len, cap, hv, g1, g2, g3⟩ := rd_row (P := Try.prog) (t := 22) (e := 3) (n := 1) und (by kernel_rfl) (by decide) h2
  obtain ⟨a1, n1, c1, rfl⟩ := Go.WideShapes.okWide_slice und h1
  obtain ⟨rfl, rfl, rfl⟩ : a1 = ao ∧ n1 = len ∧ c1 = cap := by simpa [Value.cells] using hv
  rcases g3 with h0 | ⟨b, off, hb, rfl, hc⟩
  · exact ⟨a1, n1, c1, [], rfl, by rw [h0]; rfl, g1, by unfold maxLen at g2; omega, .inl h0⟩
  · have key : ∀ i, ∃ x : Int, i < n1 → W.cell? ⟨b, off + i, none⟩ = some (.int .i64 x) := by
      intro i
      by_cases hi : i < n1
      · obtain ⟨cs, hl, hcell, hr⟩ := hc i hi
        obtain ⟨x, rfl, x1, x2⟩ := rd_int Try.underlying3 hr
        refine ⟨x, fun _ => ?_⟩
        have := hcell 0 (by decide)
        rwa [show i * 1 + 0 = i by omega] at this
      · exact ⟨0, fun h => absurd h hi⟩
    obtain ⟨f, hf⟩ := Classical.axiomOfChoice key
    refine ⟨_, n1, c1, (List.range n1).map f, rfl, by simp, g1, by unfold maxLen at g2; omega, .inr ⟨b, off, rfl, hb, fun j x hx => ?_⟩⟩
    have hj : j < n1 := by have := (List.getElem?_eq_some_iff.1 hx).1; simpa using this
    rw [List.getElem?_map, List.getElem?_range hj] at hx
    cases hx
    exact hf j hj
set_option maxHeartbeats 1000000 in
theorem size_walk (n m : Int) (h1 : 1 ≤ m) (h2 : m ≤ 1000000) (w : World) : Calls Try.prog 6 #[.int .i64 n, .int .i64 m] w (fun e w' => e = .returned (.int .i64 (fewE m n)) ∧ w = w') := by
  have t1 := tm_bd n m (by omega)
  have E1 := fewE_bd m n h1
  have FE := Lib.hid (show fewE m n = n.tmod m % m + 1 from rfl)
  unfold fewE at E1
  generalize fewE m n = q at FE ⊢
  generalize hq1 : n.tmod m = x1 at *
  generalize hq2 : x1 % m = x2 at *
  rw [FE.out]
  clear FE
  go_enter Try.func6, Try.ntmps6
  go_wp2_with fail
  go_ret
  exact ⟨rfl, rfl⟩
/-! the tasks, in plain words -/
def evN : Nat → Int
  | 0 => 2 | 1 => 3 | 2 => 4 | 3 => 6 | 4 => 8 | _ => 12
def tpE (x : Int) : Int := evN (fewE 6 x - 1).toNat
def tpT (x y z : Int) : Tk := ⟨tpE x, fewE (tpE x) y, z⟩
def tpK (A B C : List Int) : Nat → List Tk
  | 0 => []
  | k + 1 => tpK A B C k ++ [tpT (A.getD k 0) (B.getD k 0) (C.getD k 0)]
theorem evN_bd (k : Nat) : 1 ≤ evN k ∧ evN k ≤ 12 ∧ evN k ∣ 24 := by
  unfold evN; split <;> decide
theorem tpK_len (A B C : List Int) : ∀ k, (tpK A B C k).length = k
  | 0 => rfl
  | k + 1 => by simp [tpK, tpK_len A B C k]
theorem tpT_may (x y z : Int) : mayT (tpT x y z) = true ∧ (tpT x y z).ev ∣ 24 ∧ 1 ≤ (tpT x y z).ev ∧ (tpT x y z).ev ≤ 12 := by
  obtain ⟨a, b, c⟩ := evN_bd (fewE 6 x - 1).toNat
  have d := fewE_bd (tpE x) y a
  exact ⟨mayT_iff.2 ⟨a, by simp only [tpT, tpE]; omega, d.1, d.2⟩, c, a, b⟩
theorem tpK_may (A B C : List Int) : ∀ k, ∀ t ∈ tpK A B C k, mayT t = true ∧ t.ev ∣ 24 ∧ 1 ≤ t.ev ∧ t.ev ≤ 12
  | 0, t, h => by simp [tpK] at h
  | k + 1, t, h => by
    rw [tpK, List.mem_append] at h
    rcases h with h | h
    · exact tpK_may A B C k t h
    · rw [List.mem_singleton] at h; subst h; exact tpT_may _ _ _
theorem tpK_succ {A B C : List Int} {k : Nat} {x y z : Int} (h1 : A[k]? = some x) (h2 : B[k]? = some y) (h3 : C[k]? = some z) : tpK A B C (k + 1) = tpK A B C k ++ [tpT x y z] := by
  simp [tpK, List.getD, h1, h2, h3]
theorem tpK_new (A B C : List Int) {k : Nat} (h : k ≤ 6) : newE (tpK A B C k) = 0 := by
  unfold newE
  rw [tpK_len, if_neg (by omega), if_pos (List.all_eq_true.2 fun t ht => (tpK_may A B C k t ht).1)]
theorem tpK_load (A B C : List Int) {k : Nat} (h : k ≤ 6) : 0 < (loadF (tpK A B C k)).2 := by
  refine load_pos (H := 24) (by omega) (by omega) (by rw [tpK_len]; omega) fun t ht => ?_
  obtain ⟨h1, h2, h3, h4⟩ := tpK_may A B C k t ht
  obtain ⟨a, b, c, d⟩ := mayT_iff.1 h1
  refine ⟨by omega, ?_, by omega⟩
  have e : ((t.ev.toNat : Nat) : Int) ∣ ((24 : Nat) : Int) := by rw [Int.toNat_of_nonneg (by omega)]; exact h2
  exact Int.natCast_dvd_natCast.1 e
theorem tks_new (L : List Tk) : tks (newP L).l = L := by unfold tks newP; simp [Function.comp_def]
/-! memory -/
structure TpR (w wr : World) (v : Value) (L : List Tk) : Prop where
  own : wr.ownsRow w.heap.size 26 3 v L.length (flatT L)
  b : Below w.heap.size w wr
theorem TpR.below {w wr w2 : World} {v : Value} {L : List Tk} (h : TpR w wr v L) (b : Below wr.heap.size wr w2) : TpR w w2 v L :=
  ⟨own_keep h.own fun g hg => b.block g (h.own.lt g hg).2, h.b.trans (b.mono h.b.size)⟩
theorem TpR.next {w wr w5 : World} {v v' : Value} {L : List Tk} {t : Tk} {ob : Obj} (h : TpR w wr v L) (gr : (wr.alloc ob).grownBy w5 v.ownBlock) (ow : w5.ownsRow w.heap.size 26 3 v' (L.length + 1) (flatT L ++ tkl t)) : TpR w w5 v' (L ++ [t]) := by
  refine ⟨by rw [flatT_snoc, List.length_append]; exact ow, ?_⟩
  have b1 := h.b.trans (((Below.refl wr.heap.size wr).alloc (Nat.le_refl _) ob).mono h.b.size)
  refine b1.trans ⟨gr.os, gr.tape, gr.output, gr.size, fun i hi => gr.block i (by have := b1.size; omega) fun e => ?_⟩
  have := (h.own.lt i e.symm).1
  omega
theorem ev_cell (w : World) {K : Nat} (h : K < 6) : (w.alloc (.cells #[.int .i64 2, .int .i64 3, .int .i64 4, .int .i64 6, .int .i64 8, .int .i64 12] 3)).cell? ⟨w.heap.size, K, none⟩ = some (.int .i64 (evN K)) := by
  rw [blk_cell (Deep.blk_alloc_new w _)]
  match K, h with
  | 0, _ => rfl
  | 1, _ => rfl
  | 2, _ => rfl
  | 3, _ => rfl
  | 4, _ => rfl
  | 5, _ => rfl
/-- what the cut behind the first loop says -/
structure C1 (w wx : World) (A B C : List Int) (v : Value) (N : Nat) : Prop where
  r : TpR w wx v (tpK A B C N)
  n6 : N ≤ 6
end Go.Proofs.Yteejnfjlfoeblaa
