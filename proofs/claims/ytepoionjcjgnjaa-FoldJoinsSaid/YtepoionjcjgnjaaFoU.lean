import Derived.Test.YtepoionjcjgnjaaFoI
set_option autoImplicit false
set_option linter.unusedVariables false
namespace Go.Proofs.Ytepoionjcjgnjaa
open Go.RowKit Lk Fo
/-- numbers lent, with marks behind -/
structure Lt (w : World) (B g n cap : Nat) (l : List Int) : Prop where
  own : w.ownsRow B 2 1 (.slice (some ⟨g, 0, none⟩) (n + 2) cap) (n + 2) (ints (l ++ [77, 78]))
  len : l.length = n
  range : ∀ x ∈ l, -9223372036854775808 ≤ x ∧ x ≤ 9223372036854775807
  small : n ≤ 1048576
theorem Lt.keep {w w' : World} {B g n cap : Nat} {l : List Int} (h : Lt w B g n cap l) (b : Below w.heap.size w w') : Lt w' B g n cap l := ⟨ownsB h.own b, h.len, h.range, h.small⟩
theorem Lt.cap {w : World} {B g n cap : Nat} {l : List Int} (h : Lt w B g n cap l) : n + 2 ≤ cap ∧ g < w.heap.size := by
  rcases h.own.2 with ⟨h, _⟩ | ⟨g', cap', cur, he, _, hg, hc, _⟩
  · cases h
  · cases he
    exact ⟨hc, (Array.getElem?_eq_some_iff.1 hg).1⟩
theorem Lt.cell {w : World} {B g n cap : Nat} {l : List Int} (h : Lt w B g n cap l) {j : Nat} {x : Int} (hj : (l ++ [77, 78])[j]? = some x) : w.cell? ⟨g, j, none⟩ = some (.int .i64 x) := by
  have h1 := (List.getElem?_eq_some_iff.1 hj).1
  rw [List.length_append, h.len] at h1
  rw [h.own.cellAt j (by simpa using h1)]
  simp only [ints, List.getElem?_map, hj, Option.map_some]
theorem Lt.sl {w : World} {B g n cap : Nat} {l : List Int} (h : Lt w B g n cap l) : Sl w (some ⟨g, 0, none⟩) n cap l :=
  ⟨h.len, by have := h.cap.1; omega, by have := h.small; omega, h.range, .inr ⟨g, 0, rfl, h.cap.2, fun j hj => by
    rw [Nat.zero_add]
    exact h.cell (by rw [List.getElem?_append_left hj, List.getElem?_eq_getElem hj])⟩⟩
theorem ints_app (l m : List Int) : ints (l ++ m) = ints l ++ ints m := by simp [ints]
theorem own_empty (w : World) : (w.alloc (.cells #[] 2)).ownsRow w.heap.size 2 1 (.slice (some ⟨w.heap.size, 0, none⟩) 0 0) 0 [] :=
  ⟨rfl, .inr ⟨w.heap.size, 0, #[], rfl, Nat.le_refl _, by rw [al, if_pos rfl], Nat.le_refl _, Nat.zero_le _, rfl, rfl⟩⟩
theorem new2 (w : World) (x y : Int) : ∀ (j : Nat) (u : Value), [Value.int .i64 x, Value.int .i64 y][j]? = some u → (w.alloc (Obj.cells #[Value.int .i64 x, Value.int .i64 y] 2)).cell? ((⟨w.heap.size, 0, none⟩ : Addr).add j) = some u := by
  intro j u h
  have hn : (w.alloc (Obj.cells #[Value.int .i64 x, Value.int .i64 y] 2)).heap[w.heap.size]? = some (.cells #[Value.int .i64 x, Value.int .i64 y] 2 (0, 0)) := by rw [al, if_pos rfl]
  have ha : (⟨w.heap.size, 0, none⟩ : Addr).add j = ⟨w.heap.size, j, none⟩ := by unfold Addr.add; split <;> simp_all
  rw [ha, cell_of_heap hn j]
  match j, h with
  | 0, h => exact h
  | 1, h => exact h
theorem ints_one' (l : List Int) : ∀ u ∈ ints l, u.oneCell' = true := by
  intro u hu
  obtain ⟨x, _, rfl⟩ := List.mem_map.1 hu
  rfl
theorem run_reslice (g n m cap : Nat) (h : n ≤ cap) (hs : n ≤ 9223372036854775807) (w : World) : (Instr.slice 27 (.slice (some ⟨g, 0, none⟩) m cap) none (some (.int .i64 (n : Int))) none).run Try.prog w = .ok (.slice (some ⟨g, 0, none⟩) n cap) w := by
  simp [Instr.slice, run_underlying und27, Instr.sliceBounds, Instr.sliceBound, asIntOf, go_sem, h]
def Arg2 (w : World) : Prop := ∀ (j : Nat) (u : Value), [Value.int .i64 77, Value.int .i64 78][j]? = some u → ((w.alloc (Obj.cells #[] 2)).alloc (Obj.cells #[Value.int .i64 77, Value.int .i64 78] 2)).cell? ((⟨w.heap.size + 1, 0, none⟩ : Addr).add j) = some u
def ArgC (w : World) (b off : Nat) (l : List Int) : Prop := ∀ (j : Nat) (u : Value), (ints l)[j]? = some u → (w.alloc (.cells #[] 2)).cell? ((⟨b, off, none⟩ : Addr).add j) = some u
set_option maxHeartbeats 4000000 in
theorem lent_walk (a : Option Addr) (n cap : Nat) (l : List Int) (w : World) (s : Sl w a n cap l) (hn : n ≤ 1048576) : Calls Try.prog 13 #[.slice a n cap] w
    (fun e w' => ∃ g c, e = .returned (.slice (some ⟨g, 0, none⟩) n c) ∧ Lt w' w.heap.size g n c l ∧ Below w.heap.size w w') := by
  obtain ⟨I, hi, hz, hsz, hby⟩ := info_parts int_info
  have hl := s.len
  have HR := Lib.hid s.range
  rcases s.cells with h0 | ⟨b, off, rfl, hb, hc⟩
  · subst h0
    obtain rfl : l = [] := List.eq_nil_of_length_eq_zero hl
    clear s hl
    have oe := own_empty w
    have N2 : Arg2 w := by
      intro j u hj
      have := new2 (w.alloc (.cells #[] 2)) 77 78 j u hj
      rw [show (w.alloc (.cells #[] 2)).heap.size = w.heap.size + 1 by simp] at this
      exact this
    cases a with
    | none =>
      go_enter Try.func13, Try.ntmps13
      go_wp2_with (refine wpList_append_own _ rfl (.tmp 5) (.tmp 6) 27 rfl w.heap.size 2 I _ 1 8 und27 hi hz hsz hby rfl (by decide) _ 0 [] rfl (oe.alloc _) ⟨w.heap.size + 1, 0, none⟩ 2 2 [.int .i64 77, .int .i64 78] rfl rfl N2 (ints_one' [77, 78]) (by simp only [maxLen]; omega) (by omega) (by simp; omega) ?_; intro v5 w5 ow5 gr5 _)
      have hB5 : Below w.heap.size w w5 := grownB (B := w.heap.size) (w := w) (by (repeat' (first | exact Below.refl _ _ | refine below_drewN ?_ _ | refine Below.setCell ?_ (by first | exact Nat.le_refl _ | (simp; done) | (simp; omega)) _ | refine Below.alloc ?_ (by first | exact Nat.le_refl _ | (simp; done) | (simp; omega)) _))) gr5 (oe.alloc _) (by simp; omega)
      have ow6 : w5.ownsRow w.heap.size 2 1 v5 (0 + 2) (ints ([] ++ [77, 78])) := ow5
      obtain ⟨g5, c5, rfl, hgc⟩ : ∃ g cap, v5 = .slice (some ⟨g, 0, none⟩) (0 + 2) cap ∧ 0 + 2 ≤ cap := by
        rcases ow6.2 with ⟨_, h⟩ | ⟨g, cap, cur, h, _, _, h2, _⟩
        · exfalso; omega
        · exact ⟨g, cap, h, h2⟩
      rw [show (Value.int .i64 0) = Value.int .i64 ((0 : Nat) : Int) from rfl, run_reslice g5 0 2 c5 (by omega) (by omega) w5]
      have FIN : Lt w5 w.heap.size g5 0 c5 [] := ⟨ow6, rfl, (fun x hx => by cases hx), by omega⟩
      go_wp2_with fail
      go_ret
      exact ⟨g5, c5, rfl, FIN, hB5⟩
    | some ad =>
      go_enter Try.func13, Try.ntmps13
      go_wp2_with (refine wpList_append_own _ rfl (.tmp 5) (.tmp 6) 27 rfl w.heap.size 2 I _ 1 8 und27 hi hz hsz hby rfl (by decide) _ 0 [] rfl (oe.alloc _) ⟨w.heap.size + 1, 0, none⟩ 2 2 [.int .i64 77, .int .i64 78] rfl rfl N2 (ints_one' [77, 78]) (by simp only [maxLen]; omega) (by omega) (by simp; omega) ?_; intro v5 w5 ow5 gr5 _)
      have hB5 : Below w.heap.size w w5 := grownB (B := w.heap.size) (w := w) (by (repeat' (first | exact Below.refl _ _ | refine below_drewN ?_ _ | refine Below.setCell ?_ (by first | exact Nat.le_refl _ | (simp; done) | (simp; omega)) _ | refine Below.alloc ?_ (by first | exact Nat.le_refl _ | (simp; done) | (simp; omega)) _))) gr5 (oe.alloc _) (by simp; omega)
      have ow6 : w5.ownsRow w.heap.size 2 1 v5 (0 + 2) (ints ([] ++ [77, 78])) := ow5
      obtain ⟨g5, c5, rfl, hgc⟩ : ∃ g cap, v5 = .slice (some ⟨g, 0, none⟩) (0 + 2) cap ∧ 0 + 2 ≤ cap := by
        rcases ow6.2 with ⟨_, h⟩ | ⟨g, cap, cur, h, _, _, h2, _⟩
        · exfalso; omega
        · exact ⟨g, cap, h, h2⟩
      rw [show (Value.int .i64 0) = Value.int .i64 ((0 : Nat) : Int) from rfl, run_reslice g5 0 2 c5 (by omega) (by omega) w5]
      have FIN : Lt w5 w.heap.size g5 0 c5 [] := ⟨ow6, rfl, (fun x hx => by cases hx), by omega⟩
      go_wp2_with fail
      go_ret
      exact ⟨g5, c5, rfl, FIN, hB5⟩
  · have HC : ArgC w b off l := (fun j u hj => by
      have hj' : j < l.length := by have := (List.getElem?_eq_some_iff.1 hj).1; simpa [ints] using this
      have ha : (⟨b, off, none⟩ : Addr).add j = ⟨b, off + j, none⟩ := by unfold Addr.add; split <;> simp_all
      have hB : Below w.heap.size w (w.alloc (.cells #[] 2)) := (Below.refl _ _).alloc (Nat.le_refl _) _
      rw [ha, (hB.cell (p := ⟨b, off + j, none⟩) hb), hc j hj']
      simp [ints, hj'] at hj
      exact congrArg some hj)
    clear s hc
    have oe := own_empty w
    go_enter Try.func13, Try.ntmps13
    go_wp2_with (first
      | (refine wpList_append_own _ rfl (.tmp 3) (.tmp 4) 27 rfl w.heap.size 2 I _ 1 8 und27 hi hz hsz hby rfl (by decide) _ 0 [] rfl oe ⟨b, off, none⟩ n cap (ints l) rfl (by simp [ints, hl]) HC (ints_one' l) (by simp only [maxLen]; omega) (by omega) (by simp) ?_; intro v3 w3 ow3 gr3 _; have hB3 : Below w.heap.size w w3 := grownB (B := w.heap.size) (w := w) (w' := w.alloc (.cells #[] 2)) ((Below.refl _ w).alloc (Nat.le_refl _) _) gr3 oe (by simp); have ow4 : w3.ownsRow w.heap.size 2 1 v3 n (ints l) := (by simpa using ow3); have zz3 := hB3.size; clear ow3 gr3)
      | (refine wpList_append_own _ rfl (.tmp 5) (.tmp 6) 27 rfl w.heap.size 2 I _ 1 8 und27 hi hz hsz hby rfl (by decide) _ n (ints l) rfl (ow4.alloc _) ⟨w3.heap.size, 0, none⟩ 2 2 [.int .i64 77, .int .i64 78] rfl rfl (new2 w3 77 78) (ints_one' [77, 78]) (by simp only [maxLen]; omega) (by omega) (by simp; omega) ?_; intro v5 w5 ow5 gr5 _))
    have hB5 := grownB (hB3.alloc zz3 _) gr5 (ow4.alloc _) (by simp; omega)
    have ow6 : w5.ownsRow w.heap.size 2 1 v5 (n + 2) (ints (l ++ [77, 78])) := by (rw [ints_app]; exact ow5)
    obtain ⟨g5, c5, rfl, hgc⟩ : ∃ g cap, v5 = .slice (some ⟨g, 0, none⟩) (n + 2) cap ∧ n + 2 ≤ cap := by
      rcases ow6.2 with ⟨_, h⟩ | ⟨g, cap, cur, h, _, _, h2, _⟩
      · exfalso; omega
      · exact ⟨g, cap, h, h2⟩
    rw [run_reslice g5 n (n + 2) c5 (by omega) (by omega) w5]
    have FIN : Lt w5 w.heap.size g5 n c5 l := ⟨ow6, hl, HR.out, hn⟩
    go_wp2_with fail
    go_ret
    exact ⟨g5, c5, rfl, FIN, hB5⟩
theorem kept_walk (B g n c : Nat) (a2 : Option Addr) (c2 : Nat) (l : List Int) (w : World) (h : Lt w B g n c l) (s : Sl w a2 n c2 l) : Calls Try.prog 16 #[.slice (some ⟨g, 0, none⟩) n c, .slice a2 n c2] w
    (fun e w' => e = .returned (.bool true) ∧ Below w.heap.size w w') := by
  have hs := h.small
  have hc := h.cap
  have hl := h.len
  have c7 : w.cell? ⟨g, n, none⟩ = some (.int .i64 77) := h.cell (by rw [List.getElem?_append_right (by omega), hl, Nat.sub_self]; rfl)
  have c8 : w.cell? ⟨g, n + 1, none⟩ = some (.int .i64 78) := h.cell (by rw [List.getElem?_append_right (by omega), hl, show n + 1 - n = 1 by omega]; rfl)
  have S1 := h.sl
  have hw : wrap64 ((n : Int) + 2) = (n : Int) + 2 := wrap_self (by omega) (by omega)
  have hw1 : wrap64 ((n : Int) + 1) = (n : Int) + 1 := wrap_self (by omega) (by omega)
  have HS : Hid (Sl w (some ⟨g, 0, none⟩) n c l ∧ Sl w a2 n c2 l) := Lib.hid ⟨S1, s⟩
  clear h hl S1 s
  obtain ⟨hc1, hg⟩ := hc
  go_enter Try.func16, Try.ntmps16
  go_wp2_with fail
  refine (same_walk _ _ n n c c2 l l w HS.out.1 HS.out.2 rfl).mono ?_; rintro e w1 ⟨rfl, b1⟩
  have d7 := (b1.cell (p := ⟨g, n, none⟩) hg).trans c7
  have d8 := (b1.cell (p := ⟨g, n + 1, none⟩) hg).trans c8
  have q1 : (n : Int) < (n : Int) + 2 := by omega
  have q2 : (n : Int) + 1 < (n : Int) + 2 := by omega
  go_wp2_with fail
  go_ret
  exact ⟨rfl, b1⟩
end Go.Proofs.Ytepoionjcjgnjaa
