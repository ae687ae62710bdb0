import Derived.Test.YtgdkmakmdomdbaaPnZ
import Derived.Test.YtgdkmakmdomdbaaPnE
import Derived.Test.YtgdkmakmdomdbaaFlS
import Derived.Test.YtgdkmakmdomdbaaChecked
set_option autoImplicit false
set_option linter.unusedVariables false
namespace Go.Proofs.Ytgdkmakmdomdbaa
open Go.RowKit Go.ChangeShapes Go.WideShapes Go.ChangeAt Lk Pn
theorem Try.und49 : Try.prog.underlying 49 = some (.slice 51) := by kernel_rfl
set_option maxRecDepth 100000 in
/-- an argument of tasks, read -/
theorem ts_arg {W : World} {base : Nat} {v : Value} (h1 : Value.okWide Try.prog W .any base 22 v) (h2 : Rd Try.prog W 22 v.cells.toList) : ∃ a n cap L, v = .slice a n cap ∧ Ts W a n cap L := by
  obtain ⟨ao, len, cap, hv, g1, g2, g3⟩ := rd_row (P := Try.prog) (t := 22) (e := 26) (n := 3) Try.und22 (by kernel_rfl) (by decide) h2
  obtain ⟨a1, n1, c1, rfl⟩ := Go.WideShapes.okWide_slice Try.und22 h1
  obtain ⟨rfl, rfl, rfl⟩ : a1 = ao ∧ n1 = len ∧ c1 = cap := by simpa [Value.cells] using hv
  rcases g3 with h0 | ⟨b, off, hb, rfl, hc⟩
  · exact ⟨a1, n1, c1, [], rfl, by rw [h0]; rfl, g1, by unfold maxLen at g2; omega, .inl h0⟩
  · have key : ∀ i, ∃ t : Tk, i < n1 → At3 W b (off + i * 3) t := by
      intro i
      by_cases hi : i < n1
      · obtain ⟨cs, hl, hcell, hr⟩ := hc i hi
        obtain ⟨_, hf⟩ := rd_struct Try.underlying26 hr
        match cs, hl with
        | [c0, c1, c2], _ =>
          have d2 : Try.prog.cellsOf 2 = 1 := by kernel_rfl
          have d3 : Try.prog.cellsOf 3 = 1 := by kernel_rfl
          obtain ⟨x0, e0, _⟩ := rd_int Try.underlying2 (by simpa using hf 0 _ rfl)
          obtain ⟨x1, e1, _⟩ := rd_int Try.underlying2 (by simpa using hf 1 _ rfl)
          obtain ⟨x2, e2, _⟩ := rd_int Try.underlying3 (by simpa using hf 2 _ rfl)
          obtain rfl : c0 = .int .i64 x0 := by simpa [d2] using e0
          obtain rfl : c1 = .int .i64 x1 := by simpa [d2] using e1
          obtain rfl : c2 = .int .i64 x2 := by simpa [d3] using e2
          refine ⟨⟨x0, x1, x2⟩, fun _ => ⟨?_, ?_, ?_⟩⟩
          · have := hcell 0 (by decide); rwa [← Nat.add_assoc] at this
          · have := hcell 1 (by decide); rwa [← Nat.add_assoc] at this
          · have := hcell 2 (by decide); rwa [← Nat.add_assoc] at this
      · exact ⟨⟨0, 0, 0⟩, fun h => absurd h hi⟩
    obtain ⟨f, hf⟩ := Classical.axiomOfChoice key
    refine ⟨_, n1, c1, (List.range n1).map f, rfl, by simp, g1, by unfold maxLen at g2; omega, .inr ⟨b, off, rfl, hb, fun j t ht => ?_⟩⟩
    have hj : j < n1 := by have := (List.getElem?_eq_some_iff.1 ht).1; simpa using this
    rw [List.getElem?_map, List.getElem?_range hj] at ht
    cases ht
    exact hf j hj
set_option maxRecDepth 100000 in
/-- .. of small numbers -/
theorem s16_arg {W : World} {base : Nat} {v : Value} (h1 : Value.okWide Try.prog W .any base 49 v) (h2 : Rd Try.prog W 49 v.cells.toList) : ∃ a n cap M, v = .slice a n cap ∧ S16 W a n cap M := by
  obtain ⟨ao, len, cap, hv, g1, g2, g3⟩ := rd_row (P := Try.prog) (t := 49) (e := 51) (n := 1) Try.und49 (by kernel_rfl) (by decide) h2
  obtain ⟨a1, n1, c1, rfl⟩ := Go.WideShapes.okWide_slice Try.und49 h1
  obtain ⟨rfl, rfl, rfl⟩ : a1 = ao ∧ n1 = len ∧ c1 = cap := by simpa [Value.cells] using hv
  rcases g3 with h0 | ⟨b, off, hb, rfl, hc⟩
  · exact ⟨a1, n1, c1, [], rfl, by rw [h0]; rfl, g1, by unfold maxLen at g2; omega, .inl h0, fun x hx => by cases hx⟩
  · have key : ∀ i, ∃ x : Int, i < n1 → W.cell? ⟨b, off + i, none⟩ = some (.int .i16 x) ∧ -32768 ≤ x ∧ x ≤ 32767 := by
      intro i
      by_cases hi : i < n1
      · obtain ⟨cs, hl, hcell, hr⟩ := hc i hi
        obtain ⟨x, rfl, x1, x2⟩ := rd_int Try.underlying51 hr
        refine ⟨x, fun _ => ⟨?_, x1, x2⟩⟩
        have := hcell 0 (by decide)
        rwa [show i * 1 + 0 = i by omega] at this
      · exact ⟨0, fun h => absurd h hi⟩
    obtain ⟨f, hf⟩ := Classical.axiomOfChoice key
    refine ⟨_, n1, c1, (List.range n1).map f, rfl, by simp, g1, by unfold maxLen at g2; omega, .inr ⟨b, off, rfl, hb, fun j x hx => ?_⟩, fun x hx => ?_⟩
    · have hj : j < n1 := by have := (List.getElem?_eq_some_iff.1 hx).1; simpa using this
      rw [List.getElem?_map, List.getElem?_range hj] at hx
      cases hx
      exact (hf j hj).1
    · obtain ⟨j, hj, rfl⟩ := List.mem_map.1 hx
      exact (hf j (List.mem_range.1 hj)).2
end Go.Proofs.Ytgdkmakmdomdbaa
