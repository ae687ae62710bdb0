import Derived.Test.YtoobpiednigcgaaSmP
import Derived.Test.YtoobpiednigcgaaStM
import Derived.Test.YtoobpiednigcgaaFlG
import Derived.Test.YtoobpiednigcgaaFlS
import Derived.LoopTactic
import Derived.Deep.OwnRows
import Derived.Laws.AppendOwn
import Derived.Maps.AppendAt
set_option autoImplicit false
set_option linter.unusedVariables false
namespace Go.Proofs.Ytoobpiednigcgaa
open Go.RowKit Lk
/-- a slice of floats -/
structure Fs (w : World) (a : Option Addr) (n cap : Nat) (l : List Nat) : Prop where
  len : l.length = n
  le : n ≤ cap
  small : cap ≤ 9223372036854775807
  lt : ∀ x ∈ l, x < 2 ^ 64
  cells : n = 0 ∨ ∃ b off, a = some ⟨b, off, none⟩ ∧ b < w.heap.size ∧ ∀ j (h : j < l.length), w.cell? ⟨b, off + j, none⟩ = some (.float .f64 (l[j]))
  nil : a = none → cap = 0
theorem Fs.keep {w w' : World} {a : Option Addr} {n cap : Nat} {l : List Nat} (h : Fs w a n cap l) (b : Below w.heap.size w w') : Fs w' a n cap l :=
  ⟨h.len, h.le, h.small, h.lt, h.cells.imp id fun ⟨g, off, ha, hg, hc⟩ => ⟨g, off, ha, Nat.lt_of_lt_of_le hg b.size, fun j hj => (b.cell (p := ⟨g, off + j, none⟩) hg).trans (hc j hj)⟩, h.nil⟩
theorem Fs.at {w : World} {a : Option Addr} {n cap : Nat} {l : List Nat} (h : Fs w a n cap l) {k : Nat} (hk : k < n) :
    ∃ b off x, a = some ⟨b, off, none⟩ ∧ b < w.heap.size ∧ l[k]? = some x ∧ w.cell? ⟨b, off + k, none⟩ = some (.float .f64 x) ∧ x < 2 ^ 64 := by
  rcases h.cells with h0 | ⟨b, off, ha, hb, hc⟩
  · omega
  · have hl : k < l.length := by rw [h.len]; exact hk
    exact ⟨b, off, l[k], ha, hb, List.getElem?_eq_getElem hl, hc k hl, h.lt _ (List.getElem_mem hl)⟩
/-- five cells, a state -/
structure At5 (w : World) (b o : Nat) (s : St) : Prop where
  c0 : w.cell? ⟨b, o, none⟩ = some (.float .f64 s.x)
  c1 : w.cell? ⟨b, o + 1, none⟩ = some (.float .f64 s.v)
  c2 : w.cell? ⟨b, o + 2, none⟩ = some (.float .f64 s.pxx)
  c3 : w.cell? ⟨b, o + 3, none⟩ = some (.float .f64 s.pxv)
  c4 : w.cell? ⟨b, o + 4, none⟩ = some (.float .f64 s.pvv)
theorem At5.keep {w w' : World} {b o B : Nat} {s : St} (h : At5 w b o s) (hb : b < B) (hB : Below B w w') : At5 w' b o s :=
  ⟨(hB.cell (p := ⟨b, o, none⟩) hb).trans h.c0, (hB.cell (p := ⟨b, o + 1, none⟩) hb).trans h.c1, (hB.cell (p := ⟨b, o + 2, none⟩) hb).trans h.c2, (hB.cell (p := ⟨b, o + 3, none⟩) hb).trans h.c3, (hB.cell (p := ⟨b, o + 4, none⟩) hb).trans h.c4⟩
/-- a slice of states -/
structure Ss (w : World) (a : Option Addr) (n cap : Nat) (l : List St) : Prop where
  len : l.length = n
  le : n ≤ cap
  small : cap ≤ 9223372036854775807
  lt : ∀ s ∈ l, St.Lt s
  cells : n = 0 ∨ ∃ b off, a = some ⟨b, off, none⟩ ∧ b < w.heap.size ∧ ∀ j (h : j < l.length), At5 w b (off + j * 5) (l[j])
  nil : a = none → cap = 0
theorem Ss.keep {w w' : World} {a : Option Addr} {n cap : Nat} {l : List St} (h : Ss w a n cap l) (b : Below w.heap.size w w') : Ss w' a n cap l :=
  ⟨h.len, h.le, h.small, h.lt, h.cells.imp id fun ⟨g, off, ha, hg, hc⟩ => ⟨g, off, ha, Nat.lt_of_lt_of_le hg b.size, fun j hj => (hc j hj).keep hg b⟩, h.nil⟩
theorem Ss.at {w : World} {a : Option Addr} {n cap : Nat} {l : List St} (h : Ss w a n cap l) {k : Nat} (hk : k < n) :
    ∃ b off s, a = some ⟨b, off, none⟩ ∧ b < w.heap.size ∧ l[k]? = some s ∧ At5 w b (off + k * 5) s ∧ St.Lt s := by
  rcases h.cells with h0 | ⟨b, off, ha, hb, hc⟩
  · omega
  · have hl : k < l.length := by rw [h.len]; exact hk
    exact ⟨b, off, l[k], ha, hb, List.getElem?_eq_getElem hl, hc k hl, h.lt _ (List.getElem_mem hl)⟩
theorem take_snoc' {α : Type} {l : List α} {k : Nat} {x : α} (h : l[k]? = some x) : l.take (k + 1) = l.take k ++ [x] := by
  rw [List.take_add_one, h]; rfl
/-- x - x against nought -/
theorem self_sub {x v : Nat} (h : Is v (fsub x x)) : (FloatKind.f64.format.order v 0 = some .eq) ↔ Lk.Fin x := by
  rw [fmt64, o_eq]
  constructor
  · rintro ⟨h1, _, _⟩
    have hn : ¬ Nan (fsub x x) := fun k => h1 (h.nan.2 k)
    rcases fin_or x with a | a | a
    · exact a
    · exfalso; apply hn
      rw [fsub_eq]
      unfold fadd
      have hi : Inf (fneg x) := by
        rcases fin_or (fneg x) with b | b | b
        · have := fin_fneg.1 b; unfold Inf at a; unfold Lk.Fin at this; omega
        · exact b
        · have := nan_fneg.1 b; unfold Inf at a; unfold Nan at this; omega
      rw [add_inf_inf a hi, sgn_fneg, if_neg (by cases sgn x <;> decide)]; exact nan_qn
    · exact absurd (nan_fsub (.inl a)) hn
  · intro hf
    obtain ⟨_, h2, h3, _⟩ := fsub_fin hf hf
    have e := h.eq h2
    subst e
    refine ⟨h2, by decide +kernel, ?_⟩
    rw [h3, show ev x - ev x = 0 by grind, rc_zero]
    decide +kernel
theorem finL_snoc {l : List Nat} {k x : Nat} (h : l[k]? = some x) : finL (l.take (k + 1)) = (finL (l.take k) && decide (Lk.Fin x)) := by
  unfold finL; rw [take_snoc' h, List.all_append]; simp
theorem finL_not {l : List Nat} {k x : Nat} (h : l[k]? = some x) (hx : ¬ Lk.Fin x) : finL l = false := by
  unfold finL; rw [List.all_eq_false]
  obtain ⟨h1, h2⟩ := List.getElem?_eq_some_iff.1 h
  exact ⟨x, h2 ▸ List.getElem_mem h1, by simpa using hx⟩
set_option maxHeartbeats 1000000 in
theorem fine_walk (a : Option Addr) (n cap : Nat) (l : List Nat) (w : World) (h : Fs w a n cap l) : Calls Try.prog 29 #[.slice a n cap] w (fun e w' => e = .returned (.bool (finL l)) ∧ Below w.heap.size w w') := by
  have HC := Lib.hid h
  have hn : n ≤ 9223372036854775807 := Nat.le_trans h.le h.small
  clear h
  go_enter Try.func29, Try.ntmps29
  go_wp2_with fail
  go_loopw [7] (fun i wr => ∃ k : Nat, k ≤ n ∧ i = .int .i64 k ∧ finL (l.take k) = true ∧ Below w.heap.size w wr) (fun i _ => n - (intOf i).toNat)
  case atStart => exact ⟨0, by omega, rfl, rfl, Below.refl _ _⟩
  case round =>
    obtain ⟨k, hk, rfl, hf, hb⟩ := hrel
    have HF := Lib.hid hf
    have HB := Lib.hid hb
    clear hf hb
    by_cases hlt : k < n
    · obtain ⟨b, off, x, rfl, hb0, hx, hc, hx1⟩ := (HC.out.keep HB.out).at hlt
      have HX := Lib.hid hx
      clear hx
      by_cases hfx : Lk.Fin x
      · have T : Hid (∀ v, Is v (fop BinOp.sub x x) → FloatKind.f64.format.order v 0 = some .eq) := Lib.hid fun v hv => (self_sub hv).2 hfx
        go_wp2_with (((with_reducible refine wpList_float (x := ?_) (y := ?_) (X := ?_) (Y := ?_) rfl rfl ?_ ?_ ?_ ?_ ?_ ?_); (· rfl); (rotate_left 4); (· rfl); (· rfl); (· first | assumption | exact Is.refl _); (· first | assumption | exact Is.refl _); intro v n hv hl); have hq := T.out _ hv; have hq1 : (FloatKind.f64.format.order v 0 == some Ordering.eq) = true := (by rw [hq]; rfl); have hq2 : (FloatKind.f64.format.order v 0 != some Ordering.eq) = false := (by rw [hq]; rfl))
        go_roundw
        case rel => exact ⟨k + 1, by omega, by go_num, by rw [finL_snoc HX.out, HF.out]; simpa using hfx, below_drewN HB.out _⟩
        case measure => simp [intOf]; omega
      · have T : Hid (∀ v, Is v (fop BinOp.sub x x) → ¬ FloatKind.f64.format.order v 0 = some .eq) := Lib.hid fun v hv h => hfx ((self_sub hv).1 h)
        go_wp2_with (((with_reducible refine wpList_float (x := ?_) (y := ?_) (X := ?_) (Y := ?_) rfl rfl ?_ ?_ ?_ ?_ ?_ ?_); (· rfl); (rotate_left 4); (· rfl); (· rfl); (· first | assumption | exact Is.refl _); (· first | assumption | exact Is.refl _); intro v n hv hl); have hq := T.out _ hv; have hq1 : (FloatKind.f64.format.order v 0 == some Ordering.eq) = false := (by simpa using hq); have hq2 : (FloatKind.f64.format.order v 0 != some Ordering.eq) = true := (by simpa using hq))
        go_ret
        exact ⟨ret_bool (by rw [finL_not HX.out hfx]), below_drewN HB.out _⟩
    · obtain rfl : k = n := by omega
      go_wp2_with fail
      go_ret
      exact ⟨ret_bool (by rw [← HF.out, List.take_of_length_le (by rw [HC.out.len]; omega)]), HB.out⟩
end Go.Proofs.Ytoobpiednigcgaa
