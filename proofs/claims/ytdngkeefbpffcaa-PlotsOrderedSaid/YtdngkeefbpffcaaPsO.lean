import Derived.Test.YtdngkeefbpffcaaPlD2
import Derived.Test.YtdngkeefbpffcaaFlS
import Derived.DeepKeys
set_option autoImplicit false
set_option linter.unusedVariables false
namespace Go.Proofs.Ytdngkeefbpffcaa
open Go.RowKit Go.ChangeShapes Go.WideShapes Go.ChangeAt Lk Pl
set_option maxRecDepth 100000 in
/-- an argument of plots, read -/
theorem sp_arg {W : World} {base : Nat} {v : Value} (h1 : Value.okWide Try.prog W .any base 47 v) (h2 : Rd Try.prog W 47 v.cells.toList) : ∃ a n cap l, v = .slice a n cap ∧ Sp W a n cap l ∧ ∀ q, a = some q → q.block < W.heap.size ∨ n = 0 := by
  have und : Try.prog.underlying 47 = some (.slice 28) := by kernel_rfl
  have nl : ∃ (a : Option Addr) (len cap : Nat), v.cells.toList = [.slice a len cap] ∧ (a = none → cap = 0) := by
    rcases rd_slice und (by rw [show Try.prog.cellsOf 28 = 5 by kernel_rfl]; omega) h2 with h | ⟨a, len, cap, h, _⟩
    · exact ⟨none, 0, 0, h, fun _ => rfl⟩
    · exact ⟨some a, len, cap, h, fun e => by cases e⟩
  obtain ⟨a2, n2, c2, hv2, hnil⟩ := nl
  obtain ⟨ao, len, cap, hv, g1, g2, g3⟩ := rd_row (P := Try.prog) (t := 47) (e := 28) (n := 5) und (by kernel_rfl) (by decide) h2
  obtain ⟨a1, n1, c1, rfl⟩ := Go.WideShapes.okWide_slice und h1
  obtain ⟨rfl, rfl, rfl⟩ : a1 = a2 ∧ n1 = n2 ∧ c1 = c2 := by simpa [Value.cells] using hv2
  obtain ⟨rfl, rfl, rfl⟩ : a1 = ao ∧ n1 = len ∧ c1 = cap := by simpa [Value.cells] using hv
  rcases g3 with h0 | ⟨b, off, hb, rfl, hc⟩
  · exact ⟨a1, n1, c1, [], rfl, ⟨by rw [h0]; rfl, g1, by unfold maxLen at g2; omega, fun s hs => by simp at hs, .inl h0, hnil⟩, fun _ _ => .inr h0⟩
  · have key : ∀ i, ∃ p : Pt, (i < n1 → AtP W b (off + i * 5) p) ∧ PtLt p := by
      intro i
      by_cases hi : i < n1
      · obtain ⟨cs, hl, hcell, hr⟩ := hc i hi
        obtain ⟨_, hf⟩ := rd_struct (P := Try.prog) (t := 28) Try.underlying28 hr
        match cs, hl with
        | [c0, c1, c2, c3, c4], _ =>
          have d : Try.prog.cellsOf 22 = 1 := by kernel_rfl
          obtain ⟨x0, e0, y0⟩ := rd_float Try.underlying22 (by simpa using hf 0 _ rfl)
          obtain ⟨x1, e1, y1⟩ := rd_float Try.underlying22 (by simpa using hf 1 _ rfl)
          obtain ⟨x2, e2, y2⟩ := rd_float Try.underlying22 (by simpa using hf 2 _ rfl)
          obtain ⟨x3, e3, y3⟩ := rd_float Try.underlying22 (by simpa using hf 3 _ rfl)
          obtain ⟨x4, e4, y4⟩ := rd_float Try.underlying22 (by simpa using hf 4 _ rfl)
          obtain rfl : c0 = .float .f64 x0 := by simpa [d] using e0
          obtain rfl : c1 = .float .f64 x1 := by simpa [d] using e1
          obtain rfl : c2 = .float .f64 x2 := by simpa [d] using e2
          obtain rfl : c3 = .float .f64 x3 := by simpa [d] using e3
          obtain rfl : c4 = .float .f64 x4 := by simpa [d] using e4
          refine ⟨⟨x0, x1, x2, x3, x4⟩, fun _ => ⟨?_, ?_, ?_, ?_, ?_⟩, ⟨y0, y1, y2, y3, y4⟩⟩
          · have := hcell 0 (by decide); rwa [← Nat.add_assoc] at this
          · have := hcell 1 (by decide); rwa [← Nat.add_assoc] at this
          · have := hcell 2 (by decide); rwa [← Nat.add_assoc] at this
          · have := hcell 3 (by decide); rwa [← Nat.add_assoc] at this
          · have := hcell 4 (by decide); rwa [← Nat.add_assoc] at this
      · exact ⟨⟨0, 0, 0, 0, 0⟩, fun h => absurd h hi, ⟨by decide, by decide, by decide, by decide, by decide⟩⟩
    obtain ⟨f, hf⟩ := Classical.axiomOfChoice key
    refine ⟨_, n1, c1, (List.range n1).map f, rfl, ⟨by simp, g1, by unfold maxLen at g2; omega, fun s hs => ?_, .inr ⟨b, off, rfl, hb, fun j hj => ?_⟩, hnil⟩, fun q hq => by cases hq; exact .inl hb⟩
    · obtain ⟨j, _, rfl⟩ := List.mem_map.1 hs
      exact (hf j).2
    · have hj' : j < n1 := by simpa using hj
      rw [List.getElem_map, List.getElem_range]
      exact (hf j).1 hj'
end Go.Proofs.Ytdngkeefbpffcaa

set_option autoImplicit false
set_option linter.unusedVariables false
namespace Pl
open Lk
def cb (x : Nat) : Nat := if Nan x then 18446744073709551615 else x
theorem cb_is {x y : Nat} (h : Is x y) : cb x = cb y := by
  unfold cb
  rcases h with ⟨h1, h2⟩ | ⟨rfl, h1⟩
  · rw [if_pos h1, if_pos h2]
  · rfl
end Pl
namespace Go.Proofs.Ytdngkeefbpffcaa
open Go.RowKit Lk Pl
theorem cb_walk (x : Nat) (w : World) : Calls Try.prog 77 #[.float .f64 x] w (fun e w' => e = .returned (.int .u64 (cb x : Nat)) ∧ w = w') := by
  have q1 := ne_self x
  by_cases hn : Nan x
  · rw [decide_eq_true hn] at q1
    have H : Hid (cb x = 18446744073709551615) := Lib.hid (by unfold cb; rw [if_pos hn])
    clear hn
    go_enter Try.func77, Try.ntmps77
    go_wp2_with fail
    go_ret
    exact ⟨by rw [H.out]; rfl, rfl⟩
  · rw [decide_eq_false hn] at q1
    have H : Hid (cb x = x) := Lib.hid (by unfold cb; rw [if_neg hn])
    clear hn
    go_enter Try.func77, Try.ntmps77
    go_wp2_with fail
    go_ret
    exact ⟨by rw [H.out]; rfl, rfl⟩
theorem eq_pair_gen {P : Program} {t e : TypeId} (und : P.underlying t = some (.array 2 e)) (und2 : P.underlying e = some (.int .u64)) (d1 : P.cellsOf t = 2) (d2 : P.cellsOf e = 1) (kt : P.keyTypeAt 2 t = true) (u v : Nat) (hu : u < 2 ^ 64) (hv : v < 2 ^ 64)
    (f : (Value.agg #[.int .u64 (u : Int), .int .u64 (v : Int)]).formed P t = true) (w : World) : (Op.equalIn 10000 t (.agg #[.int .u64 (u : Int), .int .u64 (v : Int)]) (.agg #[.int .u64 (u : Int), .int .u64 (v : Int)])).run P w = .ok true w := by
  have k := run_equalIn_deep (P := P) 9998 2 t kt
  have w1 : (Lit.int .u64 (u : Int)).wf = true := by simp [Lit.wf, IntKind.min, IntKind.max, IntKind.bits, IntKind.signed]; omega
  have w2 : (Lit.int .u64 (v : Int)).wf = true := by simp [Lit.wf, IntKind.min, IntKind.max, IntKind.bits, IntKind.signed]; omega
  have hl : P.keyLits 2 t (Value.agg #[.int .u64 (u : Int), .int .u64 (v : Int)]).cells.toList = some [.int .u64 (u : Int), .int .u64 (v : Int)] := by
    simp [Program.keyLits, Value.cells, und, und2, d1, d2, w1, w2, List.range_succ]
  obtain ⟨r, h1, h2⟩ := k w 2 2 _ _ _ _ f f hl hl
  rw [h2.2 rfl] at h1
  exact h1
theorem eq_pair (u v : Nat) (hu : u < 2 ^ 64) (hv : v < 2 ^ 64) (w : World) : (Op.equalIn 10000 106 (.agg #[.int .u64 (u : Int), .int .u64 (v : Int)]) (.agg #[.int .u64 (u : Int), .int .u64 (v : Int)])).run Try.prog w = .ok true w :=
  eq_pair_gen (e := 77) (by kernel_rfl) (by kernel_rfl) (by kernel_rfl) (by kernel_rfl) (by kernel_rfl) u v hu hv (by kernel_rfl) w
theorem cb_lt {x : Nat} (h : x < 2 ^ 64) : cb x < 2 ^ 64 := by unfold cb; split <;> omega
set_option maxRecDepth 100000 in
theorem csame_walk (x y : Nat) (w : World) (h : cb x = cb y) (hy : y < 2 ^ 64) : Calls Try.prog 71 #[.complex .f64 x 0, .complex .f64 y 0] w (fun e w' => e = .returned (.bool true) ∧ w = w') := by
  have E := Lib.hid h
  have Y := Lib.hid hy
  clear h hy
  go_enter Try.func71, Try.ntmps71
  go_wp2_with fail
  refine (cb_walk x w).mono ?_
  rintro e w1 ⟨rfl, rfl⟩
  go_wp2_with fail
  refine (cb_walk 0 w).mono ?_
  rintro e w1 ⟨rfl, rfl⟩
  go_wp2_with fail
  refine (cb_walk y w).mono ?_
  rintro e w1 ⟨rfl, rfl⟩
  go_wp2_with fail
  refine (cb_walk 0 w).mono ?_
  rintro e w1 ⟨rfl, rfl⟩
  rw [E.out]
  have q := fun w => eq_pair (cb y) (cb 0) (cb_lt Y.out) (cb_lt (by decide)) w
  go_wp2_with fail
  go_ret
  exact ⟨rfl, rfl⟩
theorem float_walk (x y : Nat) (w : World) (h : Is x y) (hy : y < 2 ^ 64) : Calls Try.prog 46 #[.float .f64 x, .float .f64 y] w (fun e w' => e = .returned (.bool true) ∧ w = w') := by
  have E := Lib.hid (csame_walk x y w (cb_is h) hy)
  clear h hy
  go_enter Try.func46, Try.ntmps46
  go_wp2_with fail
  refine E.out.mono ?_
  rintro e w1 ⟨rfl, rfl⟩
  go_wp2_with fail
  go_ret
  exact ⟨rfl, rfl⟩
end Go.Proofs.Ytdngkeefbpffcaa

set_option autoImplicit false
set_option linter.unusedVariables false
namespace Go.Proofs.Ytdngkeefbpffcaa
open Go.RowKit Lk Pl
set_option maxRecDepth 100000 in
set_option maxHeartbeats 1000000 in
/-- two plots that are the same but for a word of no number -/
theorem same_walk (p q : Pt) (w : World) (hq : PtLt q) (h0 : Is p.range q.range) (h1 : Is p.speed q.speed) (h2 : Is p.power q.power) (h3 : Is p.bearing q.bearing) (h4 : Is p.time q.time) : Calls Try.prog 25 #[pv p, pv q] w (fun e w' => e = .returned (.bool true) ∧ Below w.heap.size w w') := by
  have F0 := Lib.hid (fun w => float_walk p.range q.range w h0 hq.range)
  have F1 := Lib.hid (fun w => float_walk p.speed q.speed w h1 hq.speed)
  have F2 := Lib.hid (fun w => float_walk p.power q.power w h2 hq.power)
  have F3 := Lib.hid (fun w => float_walk p.bearing q.bearing w h3 hq.bearing)
  have F4 := Lib.hid (fun w => float_walk p.time q.time w h4 hq.time)
  clear h0 h1 h2 h3 h4 hq
  unfold pv
  go_enter Try.func25, Try.ntmps25
  go_wp2_with fail
  refine (F0.out _).mono ?_
  rintro e w1 ⟨rfl, rfl⟩
  go_wp2_with fail
  refine (F1.out _).mono ?_
  rintro e w1 ⟨rfl, rfl⟩
  go_wp2_with fail
  refine (F2.out _).mono ?_
  rintro e w1 ⟨rfl, rfl⟩
  go_wp2_with fail
  refine (F3.out _).mono ?_
  rintro e w1 ⟨rfl, rfl⟩
  go_wp2_with fail
  refine (F4.out _).mono ?_
  rintro e w1 ⟨rfl, rfl⟩
  go_wp2_with fail
  go_ret
  exact ⟨rfl, by (repeat' (first | exact Below.refl _ _ | refine below_drewN ?_ _ | refine Below.setCell ?_ (by first | exact Nat.le_refl _ | (simp; done) | (simp; omega)) _ | refine Below.alloc ?_ (by first | exact Nat.le_refl _ | (simp; done) | (simp; omega)) _))⟩
end Go.Proofs.Ytdngkeefbpffcaa
