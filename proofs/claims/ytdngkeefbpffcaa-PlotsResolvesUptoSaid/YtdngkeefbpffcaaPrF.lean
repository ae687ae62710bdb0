import Derived.Test.YtdngkeefbpffcaaPrD
import Derived.Test.YtdngkeefbpffcaaFlS
import Derived.Test.YtdngkeefbpffcaaRows
import Derived.JoinedCond
import Derived.ProofKit
import Derived.OpenShut
set_option autoImplicit false
set_option linter.unusedVariables false
namespace Go.Proofs.Ytdngkeefbpffcaa
open Go.RowKit Go.ChangeShapes Go.WideShapes Go.ChangeAt Go.Deep Lk Rs Pl Fo
/-! PlotsResolves' argument, of a bulk that is bounded -/
theorem blk_one {H : Type} (d : DataW H) : 1 ≤ Rows.uptoBulk d := by
  cases d with
  | lit l => cases l <;> simp [Rows.uptoBulk]
  | nil => simp [Rows.uptoBulk]
  | ptr d => simp [Rows.uptoBulk]
  | slice elems spare => simp [Rows.uptoBulk]
  | agg parts => simp [Rows.uptoBulk]
  | iface t d => simp [Rows.uptoBulk]
  | map entries => simp [Rows.uptoBulk]
  | held h => simp [Rows.uptoBulk]
theorem blk_mem {H : Type} {d : DataW H} {l : List (DataW H)} (h : d ∈ l) : Rows.uptoBulk d ≤ Rows.uptoBulkAll l := by
  induction l with
  | nil => cases h
  | cons x r ih =>
    simp only [Rows.uptoBulkAll]
    cases List.mem_cons.1 h with
    | inl e => subst e; omega
    | inr e => have := ih e; omega
theorem blk_len {H : Type} (l : List (DataW H)) : l.length ≤ Rows.uptoBulkAll l := by
  induction l with
  | nil => simp [Rows.uptoBulkAll]
  | cons x r ih => have := blk_one x; simp only [Rows.uptoBulkAll, List.length_cons]; omega
/-- reads as data of a bulk of at most 2^20 -/
def Rk (W : World) (t : TypeId) (cs : List Value) : Prop :=
  ∃ (H : Type) (enc : TypeId × Value → H) (fuel : Nat) (d : DataW H) (ps : List MemPlace), DataW.trod enc Try.prog W 0 (fun _ => true) true fuel t cs = some (d, ps) ∧ (∀ x ∈ ps, x.block < W.heap.size) ∧ Rows.uptoBulk d ≤ 1048576
theorem Rk.rd {W : World} {t : TypeId} {cs : List Value} (h : Rk W t cs) : Rd Try.prog W t cs := by
  obtain ⟨H, enc, fuel, d, ps, h1, h2, _⟩ := h
  exact ⟨H, enc, fuel, d, ps, h1, h2⟩
theorem rk_struct {W : World} {t : TypeId} {fs : Array Field} {cs : List Value} (ht : Try.prog.underlying t = some (.struct fs)) (h : Rk W t cs) :
    cs.length = Try.prog.cellsOf t ∧ ∀ (j : Nat) (f : Field), fs[j]? = some f → Rk W f.type ((cs.drop f.offset).take (Try.prog.cellsOf f.type)) := by
  obtain ⟨H, enc, fuel, d, ps, h, hp, hb⟩ := h
  obtain ⟨xs, n, hn, hx, hlen, hxl, hf⟩ := DataW.trod_struct ht h
  simp only [Prod.mk.injEq] at hx
  refine ⟨hlen, fun j f hj => ?_⟩
  have h1 := hf j f hj
  have hjl : j < fs.size := (Array.getElem?_eq_some_iff.1 hj).1
  have hys : xs[j]? = some (xs[j]'(by omega)) := List.getElem?_eq_getElem (by omega)
  refine ⟨H, enc, n, _, _, h1.trans hys, fun x hxx => hp x ?_, ?_⟩
  · rw [hx.2]
    exact List.mem_flatMap.2 ⟨xs[j]'(by omega), List.getElem_mem _, hxx⟩
  · have q : Rows.uptoBulk (xs[j]'(by omega)).1 ≤ Rows.uptoBulkAll (xs.map (·.1)) := blk_mem (List.mem_map.2 ⟨_, List.getElem_mem _, rfl⟩)
    rw [hx.1] at hb
    simp only [Rows.uptoBulk] at hb
    exact Nat.le_trans q (by omega)
theorem rk_slice {W : World} {t e : TypeId} {cs : List Value} (ht : Try.prog.underlying t = some (.slice e)) (h : Rk W t cs) :
    cs = [.slice none 0 0] ∨ ∃ (a : Addr) (len cap : Nat), cs = [.slice (some a) len cap] ∧ len ≤ 1048576 ∧
      ∀ i, i < len → ∃ cs' : List Value, cs'.length = Try.prog.cellsOf e ∧ (∀ j, j < Try.prog.cellsOf e → W.cell? (a.add (i * Try.prog.cellsOf e + j)) = cs'[j]?) ∧ Rk W e cs' := by
  obtain ⟨H, enc, fuel, d, ps, h, hp, hbk⟩ := h
  rcases open_slice ht h with ⟨rfl, _⟩ | ⟨a, len, cap, m, n, D, Pl, rfl, hb, hl, hm, hmm, hx, hi⟩
  · exact .inl rfl
  · obtain rfl : m = cap := hmm
    simp only [Prod.mk.injEq] at hx
    rw [hx.1] at hbk
    simp only [Rows.uptoBulk] at hbk
    have l1 := blk_len ((List.range len).map D)
    rw [List.length_map, List.length_range] at l1
    refine .inr ⟨a, len, m, rfl, by omega, fun i hil => ?_⟩
    have him : i < m := by omega
    obtain ⟨cs', h1, h2⟩ := hi i him
    obtain ⟨l1', l2⟩ := cells_some h1
    refine ⟨cs', l1', fun j hj => ?_, H, enc, n, D i, Pl i, h2, fun x hxx => hp x ?_, ?_⟩
    · rw [← add_add]; exact l2 j hj
    · rw [hx.2]
      exact List.mem_append_right _ (List.mem_flatMap.2 ⟨i, List.mem_range.2 him, hxx⟩)
    · have := blk_mem (d := D i) (l := (List.range len).map D) (List.mem_map.2 ⟨i, List.mem_range.2 hil, rfl⟩)
      omega
set_option maxRecDepth 100000 in
theorem sc_rd {W : World} {cs : List Value} (h2 : Rd Try.prog W 36 cs) : ∃ a n cap LL, cs = [.slice a n cap] ∧ SC W a n cap LL := by
  have und : Try.prog.underlying 36 = some (.slice 39) := by kernel_rfl
  obtain ⟨ao, n1, c1, hv, g1, g2, g3⟩ := rd_row (P := Try.prog) (t := 36) (e := 39) (n := 1) und (by kernel_rfl) (by decide) h2
  rcases g3 with h0 | ⟨b, off, hb, rfl, hc⟩
  · exact ⟨ao, n1, c1, [], hv, ⟨by rw [h0]; rfl, g1, by unfold maxLen at g2; omega, .inl h0⟩⟩
  · have key : ∀ i, ∃ L : List Int, (i < n1 → ∃ a' c', W.cell? ⟨b, off + i, none⟩ = some (.slice a' L.length c') ∧ SN W a' L.length c' L) := by
      intro i
      by_cases hi : i < n1
      · obtain ⟨cs, hl, hcell, hr⟩ := hc i hi
        obtain ⟨a', n', c', M, rfl, sn, bd⟩ := sn_rd hr
        have e := sn.len
        subst e
        refine ⟨M, fun _ => ⟨a', c', ?_, sn⟩⟩
        have := hcell 0 (by decide)
        rwa [show i * 1 + 0 = i by omega] at this
      · exact ⟨[], fun h => absurd h hi⟩
    obtain ⟨f, hf⟩ := Classical.axiomOfChoice key
    refine ⟨_, n1, c1, (List.range n1).map f, hv, ⟨by simp, g1, by unfold maxLen at g2; omega, .inr ⟨b, off, rfl, hb, fun j C hx => ?_⟩⟩⟩
    have hj : j < n1 := by have := (List.getElem?_eq_some_iff.1 hx).1; simpa using this
    rw [List.getElem?_map, List.getElem?_range hj] at hx
    cases hx
    exact hf j hj
set_option maxRecDepth 100000 in
theorem sb_rd {W : World} {cs : List Value} (h2 : Rd Try.prog W 35 cs) : ∃ a n cap L, cs = [.slice a n cap] ∧ SBt W a n cap L ∧ (a = none → n = 0 ∧ cap = 0) := by
  have und : Try.prog.underlying 35 = some (.slice 24) := by kernel_rfl
  have nl : ∃ (a : Option Addr) (len cap : Nat), cs = [.slice a len cap] ∧ (a = none → len = 0 ∧ cap = 0) := by
    rcases rd_slice und (by rw [show Try.prog.cellsOf 24 = 5 by kernel_rfl]; omega) h2 with h | ⟨a, len, cap, h, _⟩
    · exact ⟨none, 0, 0, h, fun _ => ⟨rfl, rfl⟩⟩
    · exact ⟨some a, len, cap, h, fun e => by cases e⟩
  obtain ⟨a2, n2, c2, hv2, hnil⟩ := nl
  obtain ⟨ao, n1, c1, hv, g1, g2, g3⟩ := rd_row (P := Try.prog) (t := 35) (e := 24) (n := 5) und (by kernel_rfl) (by decide) h2
  obtain ⟨rfl, rfl, rfl⟩ : a2 = ao ∧ n2 = n1 ∧ c2 = c1 := by rw [hv] at hv2; simpa [eq_comm] using hv2
  rcases g3 with h0 | ⟨b, off, hb, rfl, hc⟩
  · exact ⟨a2, n2, c2, [], hv, ⟨by rw [h0]; rfl, g1, by unfold maxLen at g2; omega, .inl h0, fun t ht => by simp at ht⟩, hnil⟩
  · have key : ∀ i, ∃ p : Bt, (i < n2 → AtBt W b (off + i * 5) p) ∧ BtOk p := by
      intro i
      by_cases hi : i < n2
      · obtain ⟨cs, hl, hcell, hr⟩ := hc i hi
        obtain ⟨_, hf⟩ := rd_struct (P := Try.prog) (t := 24) Try.underlying24 hr
        match cs, hl with
        | [c0, c1, c2, c3, c4], _ =>
          have d : Try.prog.cellsOf 22 = 1 := by kernel_rfl
          have d' : Try.prog.cellsOf 3 = 1 := by kernel_rfl
          obtain ⟨x0, e0, y0⟩ := rd_float Try.underlying22 (by simpa using hf 0 _ rfl)
          obtain ⟨x1, e1, y1⟩ := rd_float Try.underlying22 (by simpa using hf 1 _ rfl)
          obtain ⟨x2, e2, y2⟩ := rd_float Try.underlying22 (by simpa using hf 2 _ rfl)
          obtain ⟨x3, e3, y3, z3⟩ := rd_int Try.underlying3 (by simpa using hf 3 _ rfl)
          obtain ⟨x4, e4, y4, z4⟩ := rd_int Try.underlying3 (by simpa using hf 4 _ rfl)
          obtain rfl : c0 = .float .f64 x0 := by simpa [d] using e0
          obtain rfl : c1 = .float .f64 x1 := by simpa [d] using e1
          obtain rfl : c2 = .float .f64 x2 := by simpa [d] using e2
          obtain rfl : c3 = .int .i64 x3 := by simpa [d'] using e3
          obtain rfl : c4 = .int .i64 x4 := by simpa [d'] using e4
          refine ⟨⟨x0, x1, x2, x3, x4⟩, fun _ => ⟨?_, ?_, ?_, ?_, ?_⟩, ⟨y3, z3, y4, z4⟩⟩
          · have := hcell 0 (by decide); rwa [← Nat.add_assoc] at this
          · have := hcell 1 (by decide); rwa [← Nat.add_assoc] at this
          · have := hcell 2 (by decide); rwa [← Nat.add_assoc] at this
          · have := hcell 3 (by decide); rwa [← Nat.add_assoc] at this
          · have := hcell 4 (by decide); rwa [← Nat.add_assoc] at this
      · exact ⟨⟨0, 0, 0, 0, 0⟩, fun h => absurd h hi, ⟨by decide, by decide, by decide, by decide⟩⟩
    obtain ⟨f, hf⟩ := Classical.axiomOfChoice key
    refine ⟨_, n2, c2, (List.range n2).map f, hv, ⟨by simp, g1, by unfold maxLen at g2; omega, .inr ⟨b, off, rfl, hb, fun j t ht => ?_⟩, fun s hs => ?_⟩, hnil⟩
    · have hj : j < n2 := by have := (List.getElem?_eq_some_iff.1 ht).1; simpa using this
      rw [List.getElem?_map, List.getElem?_range hj] at ht
      cases ht
      exact (hf j).1 hj
    · obtain ⟨j, _, rfl⟩ := List.mem_map.1 hs
      exact (hf j).2
/-- what a cell of cells is -/
theorem cell_bulk {W : World} {b o nC cC : Nat} (h : Rk W 36 [.slice (some ⟨b, o, none⟩) nC cC]) {j : Nat} (hj : j < nC) {a' : Option Addr} {n' c' : Nat} (hc : W.cell? ⟨b, o + j, none⟩ = some (.slice a' n' c')) : n' ≤ 1048576 ∧ (a' = none → n' = 0 ∧ c' = 0) := by
  have und : Try.prog.underlying 36 = some (.slice 39) := by kernel_rfl
  have und2 : Try.prog.underlying 39 = some (.slice 2) := by kernel_rfl
  have d1 : Try.prog.cellsOf 39 = 1 := by kernel_rfl
  rcases rk_slice und h with e | ⟨a, len, cap, e, _, hi⟩
  · simp at e
  · simp only [List.cons.injEq, Value.slice.injEq, Option.some.injEq, and_true] at e
    obtain ⟨rfl, rfl, rfl⟩ := e
    obtain ⟨cs', h1, h2, h3⟩ := hi j hj
    rw [d1] at h1 h2
    have h4 := h2 0 (by omega)
    rw [Addr.add_lit, show j * 1 + 0 = j by omega, hc] at h4
    rcases rk_slice und2 h3 with rfl | ⟨a2, len2, cap2, rfl, hl, _⟩
    · simp only [List.getElem?_cons_zero, Option.some.injEq, Value.slice.injEq] at h4
      obtain ⟨rfl, rfl, rfl⟩ := h4
      exact ⟨by omega, fun _ => ⟨rfl, rfl⟩⟩
    · simp only [List.getElem?_cons_zero, Option.some.injEq, Value.slice.injEq] at h4
      obtain ⟨rfl, rfl, rfl⟩ := h4
      exact ⟨hl, fun e => by cases e⟩
set_option maxRecDepth 100000 in
/-- the argument, read -/
theorem ask_arg {W : World} {base : Nat} {v : Value} (h1 : Value.okWide Try.prog W .any base 38 v) (h2 : Rk W 38 v.cells.toList) :
    ∃ aB nB cB B aC nC cC LL off most, v = .agg #[.slice aB nB cB, .slice aC nC cC, .int .i64 off, .int .i64 most] ∧ SBt W aB nB cB B ∧ SC W aC nC cC LL ∧ (∀ C ∈ LL, C.length ≤ 1048576) ∧ (aB = none → nB = 0 ∧ cB = 0) ∧
      (∀ b o (j n' c' : Nat), aC = some ⟨b, o, none⟩ → j < nC → W.cell? ⟨b, o + j, none⟩ = some (.slice none n' c') → n' = 0 ∧ c' = 0) := by
  obtain ⟨⟨cs⟩, rfl, hs, _⟩ := ok_agg (P := Try.prog) (t := 38) (ts := [35, 36, 2, 2]) (by kernel_rfl) (by kernel_rfl) (by kernel_rfl) h1
  match cs, hs with
  | [v0, v1, v2, v3], _ =>
    have e : (Value.agg #[v0, v1, v2, v3]).cells.toList = [v0, v1, v2, v3] := rfl
    rw [e] at h2
    obtain ⟨_, hf⟩ := rk_struct (t := 38) Try.underlying38 h2
    have f0 : Rk W 35 [v0] := by have := hf 0 _ rfl; simpa [show Try.prog.cellsOf 35 = 1 by kernel_rfl] using this
    have f1 : Rk W 36 [v1] := by have := hf 1 _ rfl; simpa [show Try.prog.cellsOf 36 = 1 by kernel_rfl] using this
    have f2 : Rk W 2 [v2] := by have := hf 2 _ rfl; simpa [show Try.prog.cellsOf 2 = 1 by kernel_rfl] using this
    have f3 : Rk W 2 [v3] := by have := hf 3 _ rfl; simpa [show Try.prog.cellsOf 2 = 1 by kernel_rfl] using this
    obtain ⟨aB, nB, cB, B, e0, sb, nil⟩ := sb_rd f0.rd
    obtain ⟨aC, nC, cC, LL, e1, sc⟩ := sc_rd f1.rd
    obtain ⟨x2, e2, _, _⟩ := rd_int Try.underlying2 f2.rd
    obtain ⟨x3, e3, _, _⟩ := rd_int Try.underlying2 f3.rd
    simp only [List.cons.injEq, and_true] at e0 e1 e2 e3
    subst e0; subst e1; subst e2; subst e3
    refine ⟨aB, nB, cB, B, aC, nC, cC, LL, x2, x3, rfl, sb, sc, fun C hC => ?_, nil, fun b o j n' c' ha hj hc => ?_⟩
    · obtain ⟨j, hj⟩ := List.mem_iff_getElem?.1 hC
      have hjn : j < nC := by have := (List.getElem?_eq_some_iff.1 hj).1; rw [sc.len] at this; exact this
      obtain ⟨b, of, C', a', c', rfl, _, hx, cc, _⟩ := sc.at hjn
      obtain rfl : C' = C := by rw [hj] at hx; exact (Option.some.inj hx).symm
      exact (cell_bulk f1 hjn cc).1
    · subst ha
      exact (cell_bulk f1 hj hc).2 rfl
end Go.Proofs.Ytdngkeefbpffcaa
