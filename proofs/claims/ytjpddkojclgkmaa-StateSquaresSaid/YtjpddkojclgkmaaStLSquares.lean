/-
  What is proved: for every state and every place, noise, time and sway the law StateSquares returns true (no square falls below nought, what is seen makes nothing less sure), and its arguments read as before. No conditions.
-/
import Derived.Test.YtjpddkojclgkmaaStK
import Derived.Test.YtjpddkojclgkmaaStQ
import Derived.Test.YtjpddkojclgkmaaFlG
import Derived.Test.YtjpddkojclgkmaaFlL
import Derived.Test.YtjpddkojclgkmaaRows
import Derived.ProofKit
import Derived.OpenShut
import Derived.WalkKit
import Derived.WalkLawsBesides
import Derived.WalkSpells
import Derived.BigQuiet
import Derived.Lib.Hide
import Derived.Outline
set_option autoImplicit false
set_option linter.unusedVariables false
namespace Go.Proofs.Ytjpddkojclgkmaa
open Go.RowKit Go.ChangeShapes Go.WideShapes Go.ChangeAt Lk

theorem Try.own : ownKnob Try.prog.godebug = none := by kernel_rfl
theorem Try.laidOut : laidOutB Try.prog = true := by kernel_rfl

theorem signbit_num (x : Nat) : decide (wrap64 (x : Int) < 0) = sgn x := by
  unfold wrap64 sgn SGN
  rw [Bool.eq_iff_iff, decide_eq_true_eq, beq_iff_eq]
  omega
theorem signbit_walk (x : Nat) (w : World) : Calls Try.prog 28 #[.float .f64 x] w (fun e w' => e = .returned (.bool (sgn x)) ∧ w = w') := by
  have H := Lib.hid (signbit_num x)
  go_enter Try.func28, Try.ntmps28
  go_wp2
  go_ret
  exact ⟨ret_bool H.out, rfl⟩
/-- what the tests see of the answers -/
theorem seen_raw {a b c d f x nz a' b' c' d' f' : Nat} (hm : MayS ⟨a, b, c, d, f⟩) (hn : cge nz 0 = true) (h1 : cgt (fadd c nz) 0 = true) (h2 : cle (fadd c nz) MAXF = true) (hs : IsS ⟨a', b', c', d', f'⟩ (seenF ⟨a, b, c, d, f⟩ x nz)) :
    (FloatKind.f64.format.order c' 0 == some Ordering.gt || FloatKind.f64.format.order c' 0 == some Ordering.eq) = true ∧ (FloatKind.f64.format.order c' c == some Ordering.lt || FloatKind.f64.format.order c' c == some Ordering.eq) = true ∧
    (FloatKind.f64.format.order c' nz == some Ordering.lt || FloatKind.f64.format.order c' nz == some Ordering.eq) = true ∧ (FloatKind.f64.format.order f' 0 == some Ordering.gt || FloatKind.f64.format.order f' 0 == some Ordering.eq) = true ∧
    (FloatKind.f64.format.order f' f == some Ordering.lt || FloatKind.f64.format.order f' f == some Ordering.eq) = true := by
  obtain ⟨g1, g2, g3, g4, g5⟩ := seen_sq (x := x) hm hn h1 h2
  exact ⟨(cge_is hs.pxx (Is.refl 0)).trans g1, (cle_is hs.pxx (Is.refl c)).trans g2, (cle_is hs.pxx (Is.refl nz)).trans g3, (cge_is hs.pvv (Is.refl 0)).trans g4, (cle_is hs.pvv (Is.refl f)).trans g5⟩
theorem far_raw {a b c d f x nz r : Nat} (hm : MayS ⟨a, b, c, d, f⟩) (hr : Is r (farF ⟨a, b, c, d, f⟩ x nz)) :
    ((FloatKind.f64.format.order r 0 == some Ordering.lt) = false ∧ sgn r = false) ∨ ((FloatKind.f64.format.order r 0 == some Ordering.lt) = false ∧ sgn r = true ∧ (FloatKind.f64.format.order r r == some Ordering.eq) = false) := by
  rw [fmt64]
  by_cases hn : Nan r
  · have e1 : (Ieee.double.order r 0 == some Ordering.lt) = false := by rw [order_nan (.inl hn)]; rfl
    have e2 : (Ieee.double.order r r == some Ordering.eq) = false := by rw [order_nan (.inl hn)]; rfl
    cases hs : sgn r
    · exact .inl ⟨e1, rfl⟩
    · exact .inr ⟨e1, rfl, e2⟩
  · have hn' : ¬ Nan (farF ⟨a, b, c, d, f⟩ x nz) := fun h => hn (hr.nan.2 h)
    have hs := far_sq hm hn'
    rw [← hr.eq hn'] at hs
    refine .inl ⟨?_, hs⟩
    show clt r 0 = false
    rw [← Bool.not_eq_true, clt_iff, ev_zero0]
    rintro ⟨_, _, h⟩
    have := ev_nonneg_of_sgn hs
    grind
theorem ahead_raw {a b c d f t q a' b' c' d' f' : Nat} (hm : MayS ⟨a, b, c, d, f⟩) (hq : cge q 0 = true) (hs : IsS ⟨a', b', c', d', f'⟩ (aheadF ⟨a, b, c, d, f⟩ t q)) :
    (FloatKind.f64.format.order f' f == some Ordering.lt) = false ∧ (FloatKind.f64.format.order c' 0 == some Ordering.lt) = false := by
  obtain ⟨g1, g2⟩ := ahead_sq (t := t) hm hq
  exact ⟨(clt_is hs.pvv (Is.refl f)).trans g1, (clt_is hs.pxx (Is.refl 0)).trans g2⟩

set_option maxHeartbeats 8000000 in
theorem squares_law (a b c d f x nz t q : Nat) (w : World) (hl : St.Lt ⟨a, b, c, d, f⟩) :
    Calls Try.prog 8 #[stv a b c d f, .agg #[.float .f64 x, .float .f64 nz, .float .f64 t, .float .f64 q]] w (fun e w' => e = .returned (.bool true) ∧ Below w.heap.size w w') := by
  have HL := Lib.hid hl
  clear hl
  by_cases hm : mayF ⟨a, b, c, d, f⟩ = true
  · have HM := Lib.hid (may_iff.1 hm)
    have HMv := Lib.hid hm
    clear hm
    cases hQ : cge q 0 <;> have HQ := Lib.hid hQ <;> have hq1 : (FloatKind.f64.format.order q 0 == some Ordering.gt || FloatKind.f64.format.order q 0 == some Ordering.eq) = _ := hQ <;> clear hQ <;>
    cases hN : cge nz 0 <;> have HN := Lib.hid hN <;> have hn1 : (FloatKind.f64.format.order nz 0 == some Ordering.gt || FloatKind.f64.format.order nz 0 == some Ordering.eq) = _ := hN <;> clear hN <;>
    cases h1 : cgt (fadd c nz) 0 <;> have H1 := Lib.hid h1 <;> clear h1 <;>
    cases h2 : cle (fadd c nz) MAXF <;> have H2 := Lib.hid h2 <;> clear h2 <;>
    by_cases hF : Lk.Fin x
    all_goals
      go_enter Try.func8, Try.ntmps8
      go_wp2_with fail
      refine wp_region_drew (fun _ _ _ => False) (by kernel_rfl) (by kernel_rfl) ?_
      repeat' (refine wpSet_step (fun K hK => ?_); go_simp; first | (refine drew_float (x := ?_) (y := ?_) (X := ?_) (Y := ?_) rfl ?_ ?_ ?_ ?_ ?_ ?_; rotate_left 4; (· rfl); (· rfl); (· rfl); (· first | assumption | exact Is.refl _); (· first | assumption | exact Is.refl _); intro v hv hl; refine hK _ ?_; clear hK K) | (refine drew_value (v := ?_) (fun n => ?_) ?_; rotate_left; (· go_simp; rfl); (refine hK _ ?_; clear hK K)))
      refine wpSet_nil ?_
      intro n1
      go_wp2_with (first | ((with_reducible refine wpList_float (x := ?_) (y := ?_) (X := ?_) (Y := ?_) rfl rfl ?_ ?_ ?_ ?_ ?_ ?_); (· rfl); (rotate_left 4); (· rfl); (· rfl); (· exact Is.refl _); (· exact Is.refl _); intro v n hv hl; have e1 : (FloatKind.f64.format.order v 0 == some Ordering.gt) = _ := (cgt_is hv (Is.refl 0)).trans H1.out; have e2 : (FloatKind.f64.format.order v 9218868437227405311 == some Ordering.lt || FloatKind.f64.format.order v 9218868437227405311 == some Ordering.eq) = _ := (cle_is hv (Is.refl MAXF)).trans H2.out) | (go_at_call 26; refine (isfin_walk _ _).mono ?_; rintro e w1 ⟨rfl, rfl⟩) | (go_at_call 13; refine (may_walk _ _ _ _ _ _ HL.out).mono ?_; rw [HMv.out]; rintro e w1 ⟨rfl, hb⟩; obtain ⟨p0, p1, p2, p3, p4⟩ := AtS.keep (B := w.heap.size) (a := a) (b := b) (c := c) (d := d) (f := f) (by refine ⟨?_, ?_, ?_, ?_, ?_⟩ <;> go_simp) (by first | (simp; omega) | omega) hb; have hz : w.heap.size < w1.heap.size := (by have := hb.size; first | omega | (simp at this; omega)); have hB : Below w.heap.size w w1 := (by refine Below.trans ?_ (hb.mono ?_); (· (repeat' (first | assumption | exact Below.refl _ _ | refine below_drewN ?_ _ | refine Below.setCell ?_ (by first | exact Nat.le_refl _ | (simp; done) | (simp; omega)) _ | refine Below.alloc ?_ (by first | exact Nat.le_refl _ | (simp; done) | (simp; omega) | omega) _))); (· first | (simp; omega) | omega)); clear hb) | (go_at_call 17; refine (seen_walk _ _ _ _ _ _ _ _ HL.out).mono ?_; rintro e w1 ⟨a', b', c', d', f', rfl, ⟨hs, _⟩, hb⟩; obtain ⟨g1, g2, g3, g4, g5⟩ := seen_raw HM.out HN.out H1.out H2.out hs; clear hs; obtain ⟨p0, p1, p2, p3, p4⟩ := AtS.keep (B := w.heap.size) (a := a) (b := b) (c := c) (d := d) (f := f) (by refine ⟨?_, ?_, ?_, ?_, ?_⟩ <;> go_simp) (by first | (simp; omega) | omega) hb; have hz : w.heap.size < w1.heap.size := (by have := hb.size; first | omega | (simp at this; omega)); have hB : Below w.heap.size w w1 := (by refine Below.trans ?_ (hb.mono ?_); (· (repeat' (first | assumption | exact Below.refl _ _ | refine below_drewN ?_ _ | refine Below.setCell ?_ (by first | exact Nat.le_refl _ | (simp; done) | (simp; omega)) _ | refine Below.alloc ?_ (by first | exact Nat.le_refl _ | (simp; done) | (simp; omega) | omega) _))); (· first | (simp; omega) | omega)); clear hb) | (go_at_call 11; refine (far_walk _ _ _ _ _ _ _ _).mono ?_; rintro e w1 ⟨r, rfl, hr, hb⟩; obtain ⟨p0, p1, p2, p3, p4⟩ := AtS.keep (B := w.heap.size) (a := a) (b := b) (c := c) (d := d) (f := f) (by refine ⟨?_, ?_, ?_, ?_, ?_⟩ <;> go_simp) (by first | (simp; omega) | omega) hb; have hz : w.heap.size < w1.heap.size := (by have := hb.size; first | omega | (simp at this; omega)); have hB : Below w.heap.size w w1 := (by refine Below.trans ?_ (hb.mono ?_); (· (repeat' (first | assumption | exact Below.refl _ _ | refine below_drewN ?_ _ | refine Below.setCell ?_ (by first | exact Nat.le_refl _ | (simp; done) | (simp; omega)) _ | refine Below.alloc ?_ (by first | exact Nat.le_refl _ | (simp; done) | (simp; omega) | omega) _))); (· first | (simp; omega) | omega)); clear hb; rcases far_raw HM.out hr with ⟨g1, g2⟩ | ⟨g1, g2, g3⟩) | (go_at_call 28; refine (signbit_walk _ _).mono ?_; rintro e w1 ⟨rfl, rfl⟩) | (go_at_call 15; refine (ahead_walk _ _ _ _ _ _ _ _ HL.out).mono ?_; rintro e w1 ⟨a', b', c', d', f', rfl, ⟨hs, _⟩, hb⟩; obtain ⟨g1, g2⟩ := ahead_raw HM.out HQ.out hs; clear hs; obtain ⟨p0, p1, p2, p3, p4⟩ := AtS.keep (B := w.heap.size) (a := a) (b := b) (c := c) (d := d) (f := f) (by refine ⟨?_, ?_, ?_, ?_, ?_⟩ <;> go_simp) (by first | (simp; omega) | omega) hb; have hz : w.heap.size < w1.heap.size := (by have := hb.size; first | omega | (simp at this; omega)); have hB : Below w.heap.size w w1 := (by refine Below.trans ?_ (hb.mono ?_); (· (repeat' (first | assumption | exact Below.refl _ _ | refine below_drewN ?_ _ | refine Below.setCell ?_ (by first | exact Nat.le_refl _ | (simp; done) | (simp; omega)) _ | refine Below.alloc ?_ (by first | exact Nat.le_refl _ | (simp; done) | (simp; omega) | omega) _))); (· first | (simp; omega) | omega)); clear hb) | (go_at_call 20; refine (wakes_walk _).mono ?_; rintro e w1 ⟨rfl, hb⟩; obtain ⟨p0, p1, p2, p3, p4⟩ := AtS.keep (B := w.heap.size) (a := a) (b := b) (c := c) (d := d) (f := f) (by refine ⟨?_, ?_, ?_, ?_, ?_⟩ <;> go_simp) (by first | (simp; omega) | omega) hb; have hz : w.heap.size < w1.heap.size := (by have := hb.size; first | omega | (simp at this; omega)); have hB : Below w.heap.size w w1 := (by refine Below.trans ?_ (hb.mono ?_); (· (repeat' (first | assumption | exact Below.refl _ _ | refine below_drewN ?_ _ | refine Below.setCell ?_ (by first | exact Nat.le_refl _ | (simp; done) | (simp; omega)) _ | refine Below.alloc ?_ (by first | exact Nat.le_refl _ | (simp; done) | (simp; omega) | omega) _))); (· first | (simp; omega) | omega)); clear hb))
      all_goals
        go_ret
        exact ⟨rfl, by assumption⟩
  · rw [Bool.not_eq_true] at hm
    have HMv := Lib.hid hm
    clear hm
    go_enter Try.func8, Try.ntmps8
    go_wp2_with fail
    refine wp_region_drew (fun _ _ _ => False) (by kernel_rfl) (by kernel_rfl) ?_
    repeat' (refine wpSet_step (fun K hK => ?_); go_simp; first | (refine drew_float (x := ?_) (y := ?_) (X := ?_) (Y := ?_) rfl ?_ ?_ ?_ ?_ ?_ ?_; rotate_left 4; (· rfl); (· rfl); (· rfl); (· first | assumption | exact Is.refl _); (· first | assumption | exact Is.refl _); intro v hv hl; refine hK _ ?_; clear hK K) | (refine drew_value (v := ?_) (fun n => ?_) ?_; rotate_left; (· go_simp; rfl); (refine hK _ ?_; clear hK K)))
    refine wpSet_nil ?_
    intro n1
    go_wp2_with (first | (go_at_call 13; refine (may_walk _ _ _ _ _ _ HL.out).mono ?_; rw [HMv.out]; rintro e w1 ⟨rfl, hb⟩; obtain ⟨p0, p1, p2, p3, p4⟩ := AtS.keep (B := w.heap.size) (a := a) (b := b) (c := c) (d := d) (f := f) (by refine ⟨?_, ?_, ?_, ?_, ?_⟩ <;> go_simp) (by first | (simp; omega) | omega) hb; have hz : w.heap.size < w1.heap.size := (by have := hb.size; first | omega | (simp at this; omega)); have hB : Below w.heap.size w w1 := (by refine Below.trans ?_ (hb.mono ?_); (· (repeat' (first | assumption | exact Below.refl _ _ | refine below_drewN ?_ _ | refine Below.setCell ?_ (by first | exact Nat.le_refl _ | (simp; done) | (simp; omega)) _ | refine Below.alloc ?_ (by first | exact Nat.le_refl _ | (simp; done) | (simp; omega) | omega) _))); (· first | (simp; omega) | omega)); clear hb) | (go_at_call 20; refine (wakes_walk _).mono ?_; rintro e w1 ⟨rfl, hb⟩; obtain ⟨p0, p1, p2, p3, p4⟩ := AtS.keep (B := w.heap.size) (a := a) (b := b) (c := c) (d := d) (f := f) (by refine ⟨?_, ?_, ?_, ?_, ?_⟩ <;> go_simp) (by first | (simp; omega) | omega) hb; have hz : w.heap.size < w1.heap.size := (by have := hb.size; first | omega | (simp at this; omega)); have hB : Below w.heap.size w w1 := (by refine Below.trans ?_ (hb.mono ?_); (· (repeat' (first | assumption | exact Below.refl _ _ | refine below_drewN ?_ _ | refine Below.setCell ?_ (by first | exact Nat.le_refl _ | (simp; done) | (simp; omega)) _ | refine Below.alloc ?_ (by first | exact Nat.le_refl _ | (simp; done) | (simp; omega) | omega) _))); (· first | (simp; omega) | omega)); clear hb))
    go_ret
    exact ⟨rfl, by assumption⟩

theorem squares_args (W : World) (base : Nat) (args : Array Value) (hsz : args.size = Try.f8.params.size) (hval : ∀ (j : Nat) t v, Try.f8.params[j]? = some t → args[j]? = some v → Value.okWide Try.prog W .any base t v) :
    Calls Try.prog 8 args W (fun e w' => e = .returned (.bool true) ∧ Below W.heap.size W w') := by
  rw [Try.params8] at hval hsz
  obtain ⟨l⟩ := args
  match l, hsz with
  | [v0, v1], _ =>
    obtain ⟨l0, e0, rfl, hb0⟩ := ok_floats (P := Try.prog) (t := 24) (tf := 22) 5 Try.underlying22 (by kernel_rfl) (by kernel_rfl) (by kernel_rfl) (hval 0 24 v0 rfl rfl)
    obtain ⟨l1, e1, rfl, hb1⟩ := ok_floats (P := Try.prog) (t := 47) (tf := 22) 4 Try.underlying22 (by kernel_rfl) (by kernel_rfl) (by kernel_rfl) (hval 1 47 v1 rfl rfl)
    match l0, e0, l1, e1, hb0 with
    | [a, b, c, d, f], _, [x, nz, t, q], _, hb0 =>
      exact squares_law a b c d f x nz t q W ⟨hb0 a (by simp), hb0 b (by simp), hb0 c (by simp), hb0 d (by simp), hb0 f (by simp)⟩

set_option maxRecDepth 100000 in
theorem squares_lifted (os : Os) (started : os.Started) (H : Type) (enc : TypeId × Value → H) :
    ReturnsInHanded {} Try.checked os 8 .any (Rows.stateSquaresSpec.pre6 enc Try.prog Try.f8 Rows.stateSquaresRow.domain false) (Rows.stateSquaresSpec.post enc Try.prog Try.f8 false true false false) :=
  law_lifted (C := Try.checked) Try.own started (by kernel_rfl) Try.func8
    (ChangeSpec.witness6 (enc := enc) (C := Try.checked) false ⟨#[], #[.agg #[.float .f64 0, .float .f64 0, .float .f64 0, .float .f64 0, .float .f64 0], .agg #[.float .f64 0, .float .f64 0, .float .f64 0, .float .f64 0]], []⟩ 8 (by kernel_rfl) (by kernel_rfl) (by kernel_rfl) (by kernel_rfl))
    Try.laidOut (fun t ht => by have ht2 : t ∈ Try.f8.params.toList := ht; rw [Try.params8] at ht2; simp only [List.mem_cons, List.not_mem_nil, or_false] at ht2; rcases ht2 with rfl | rfl <;> exact ⟨by kernel_rfl, of_decide_eq_true (by kernel_rfl)⟩)
    rfl Try.underlying4 rfl (fun ds hd => by have hd2 : ds.length = Try.f8.params.size := hd; rw [Try.params8] at hd2; match ds, hd2 with | [d1, d2], _ => exact ⟨rfl, rfl, rfl⟩) squares_args

theorem squares_holds : Rows.StateSquaresSaid :=
  OpenClaim.holds_of_wide 8 Try.f8 rfl rfl rfl rfl rfl rfl rfl ⟨rfl, rfl, rfl, rfl, rfl⟩ rfl rfl rfl rfl rfl (by kernel_rfl) Try.func8 (by kernel_rfl)
    (of_decide_eq_true (by kernel_rfl)) (by unfold Func.isWrapper; first | (rw [if_pos (by decide +kernel)]; kernel_rfl) | (rw [if_neg (by decide +kernel)]; exact ⟨rfl, rfl⟩))
    (fun os started H enc _ => squares_lifted os started H enc)
#print axioms squares_holds
end Go.Proofs.Ytjpddkojclgkmaa
