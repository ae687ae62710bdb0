import Derived.Test.YtoobpiednigcgaaSmC
set_option autoImplicit false
set_option linter.unusedVariables false
namespace Go.Proofs.Ytoobpiednigcgaa
open Go.RowKit Lk
set_option maxHeartbeats 1000000 in
/-- a lent list is as it was -/
theorem kept_walk (B g n c : Nat) (a : Option Addr) (d : Nat) (l : List Nat) (w : World) (h : Lf w B g n c l) (h' : Fs w a n d l) :
    Calls Try.prog 14 #[.slice (some ⟨g, 0, none⟩) n c, .slice a n d] w (fun e w' => e = .returned (.bool true) ∧ Below w.heap.size w w') := by
  have W1 := (samefloats_walk _ _ _ _ _ _ w h.fs h')
  obtain ⟨h1, h2, h3⟩ := h.cap
  have HM := Lib.hid h.mark
  have hs := h.small
  have hr := run_reslice g (n + 1) n c (by omega) (by omega)
  have n1 : ((n + 1 : Nat) : Int) = (n : Int) + 1 := by omega
  rw [n1] at hr
  have q0 : FloatKind.f64.format.order 4635118810238550016 4635118810238550016 = some .eq := by decide +kernel
  clear h h' n1
  go_enter Try.func14, Try.ntmps14
  go_wp2_with fail
  refine W1.mono ?_; rintro e w1 ⟨rfl, b1⟩
  have B1 := Lib.hid b1
  have hm1 : w1.cell? ⟨g, n, none⟩ = some (.float .f64 4635118810238550016) := (b1.cell (p := ⟨g, n, none⟩) h3).trans HM.out
  have h4 : g < w1.heap.size := Nat.lt_of_lt_of_le h3 b1.size
  clear W1 b1
  go_wp2_with fail
  go_ret
  exact ⟨rfl, B1.out⟩
theorem fs_arg {W : World} {base : Nat} {v : Value} (h1 : Value.okWide Try.prog W .any base 23 v) (h2 : Rd Try.prog W 23 v.cells.toList) : ∃ a n cap M, v = .slice a n cap ∧ Fs W a n cap M := by
  obtain ⟨ao, len, cap, hv, g1, g2, g3⟩ := rd_row (P := Try.prog) (t := 23) (e := 24) (n := 1) Try.und23 (by kernel_rfl) (by decide) h2
  have hnil : ao = none → cap = 0 := by
    intro h0
    rcases rd_slice (P := Try.prog) (t := 23) (e := 24) Try.und23 (by rw [show Try.prog.cellsOf 24 = 1 by kernel_rfl]; decide) h2 with h | ⟨b, l', c', h, _⟩
    · rw [hv] at h; simp at h; exact h.2.2
    · rw [hv] at h; simp at h; rw [h0] at h; cases h.1
  obtain ⟨a1, n1, c1, rfl⟩ := Go.WideShapes.okWide_slice Try.und23 h1
  obtain ⟨rfl, rfl, rfl⟩ : a1 = ao ∧ n1 = len ∧ c1 = cap := by simpa [Value.cells] using hv
  rcases g3 with h0 | ⟨b, off, hb, rfl, hc⟩
  · exact ⟨a1, n1, c1, [], rfl, by rw [h0]; rfl, g1, by unfold maxLen at g2; omega, (fun x hx => by cases hx), .inl h0, hnil⟩
  · have key : ∀ i, ∃ x : Nat, i < n1 → W.cell? ⟨b, off + i, none⟩ = some (.float .f64 x) ∧ x < 2 ^ 64 := by
      intro i
      by_cases hi : i < n1
      · obtain ⟨cs, hl, hcell, hr⟩ := hc i hi
        obtain ⟨x, rfl, x1⟩ := rd_float Try.underlying24 hr
        refine ⟨x, fun _ => ⟨?_, x1⟩⟩
        have := hcell 0 (by decide)
        rwa [show i * 1 + 0 = i by omega] at this
      · exact ⟨0, fun h => absurd h hi⟩
    obtain ⟨f, hf⟩ := Classical.axiomOfChoice key
    refine ⟨_, n1, c1, (List.range n1).map f, rfl, by simp, g1, by unfold maxLen at g2; omega, fun x hx => ?_, .inr ⟨b, off, rfl, hb, fun j hj => ?_⟩, hnil⟩
    · obtain ⟨j, hj, rfl⟩ := List.mem_map.1 hx
      exact (hf j (List.mem_range.1 hj)).2
    · have hj' : j < n1 := by simpa using hj
      rw [(hf j hj').1]; simp
end Go.Proofs.Ytoobpiednigcgaa
