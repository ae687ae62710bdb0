/-
  What is proved: for every state and every noise, sway and time the law StateStays returns true (by no time nothing moves; what is seen where it is thought to be moves neither place nor speed), and its arguments read as before. No conditions.
-/
import Derived.Test.YtjpddkojclgkmaaStK
import Derived.Test.YtjpddkojclgkmaaFlG
import Derived.Test.YtjpddkojclgkmaaFlL
import Derived.Test.YtjpddkojclgkmaaRows
import Derived.ProofKit
import Derived.OpenShut
import Derived.WalkKit
import Derived.WalkLawsBesides
import Derived.WalkSpells
import Derived.BigQuiet
import Derived.Lib.Hide
import Derived.Outline
import Derived.LoopTactic
set_option autoImplicit false
set_option linter.unusedVariables false
namespace Go.Proofs.Ytjpddkojclgkmaa
open Go.RowKit Go.ChangeShapes Go.WideShapes Go.ChangeAt Lk

theorem Try.own : ownKnob Try.prog.godebug = none := by kernel_rfl
theorem Try.laidOut : laidOutB Try.prog = true := by kernel_rfl

theorem add_still {a z : Nat} (ha : Lk.Fin a) (hz : Lk.Fin z) (h0 : ev z = 0) : ceq (fadd a z) a = true := by
  have hn : ¬ Nan a := (fin_iff.1 ha).1
  obtain ⟨_, g2, g3, _⟩ := fadd_fin ha hz
  refine ceq_iff.2 ⟨g2, hn, ?_⟩
  rw [g3, h0, Rat.add_zero, rc_ev a hn]
theorem fin_zero {z : Nat} (hn : ¬ Nan z) (h : ev z = 0) : Lk.Fin z := by
  refine fin_iff.2 ⟨hn, ?_, ?_⟩
  · rw [h, ev_max]; exact mg_nonneg _
  · rw [h, ev_nmax]; have := mg_nonneg (INF - 1); grind
theorem mul_still {k a : Nat} (hk : Lk.Fin k) (ha : Lk.Fin a) : Lk.Fin (fmul k (fsub a a)) ∧ ev (fmul k (fsub a a)) = 0 := by
  obtain ⟨_, g2, g3, _⟩ := fsub_fin ha ha
  have e0 : ev (fsub a a) = 0 := by rw [g3, show ev a - ev a = 0 by grind, rc_zero]
  obtain ⟨_, k2, k3, _⟩ := fmul_fin hk (fin_zero g2 e0)
  have e1 : ev (fmul k (fsub a a)) = 0 := by rw [k3, e0, Rat.mul_zero, rc_zero]
  exact ⟨fin_zero k2 e1, e1⟩
theorem seen_still {a b c d f nz : Nat} (ha : Lk.Fin a) (hb : Lk.Fin b) (hw : cgt (fadd c nz) 0 = true) (hk : Lk.Fin (fdiv c (fadd c nz))) (hh : Lk.Fin (fdiv d (fadd c nz))) :
    ceq (seenF ⟨a, b, c, d, f⟩ a nz).x a = true ∧ ceq (seenF ⟨a, b, c, d, f⟩ a nz).v b = true := by
  unfold seenF
  rw [if_pos hw]
  obtain ⟨h1, h2⟩ := mul_still hk ha
  obtain ⟨h3, h4⟩ := mul_still hh ha
  exact ⟨add_still ha h1 h2, add_still hb h3 h4⟩
theorem seen_still_raw {a b c d f nz a' b' c' d' f' : Nat} (ha : Lk.Fin a) (hb : Lk.Fin b) (hw : cgt (fadd c nz) 0 = true) (hk : Lk.Fin (fdiv c (fadd c nz))) (hh : Lk.Fin (fdiv d (fadd c nz)))
    (hs : IsS ⟨a', b', c', d', f'⟩ (seenF ⟨a, b, c, d, f⟩ a nz)) : (FloatKind.f64.format.order a' a == some Ordering.eq) = true ∧ (FloatKind.f64.format.order b' b == some Ordering.eq) = true := by
  obtain ⟨g1, g2⟩ := seen_still (d := d) (f := f) ha hb hw hk hh
  exact ⟨(ceq_is hs.x (Is.refl a)).trans g1, (ceq_is hs.v (Is.refl b)).trans g2⟩
theorem not_after {x : Nat} (h : Nan x ∨ ev x ≤ 0) : cgt x 0 = false := by
  rw [← Bool.not_eq_true, cgt_iff, show ev 0 = 0 by kernel_rfl]
  rintro ⟨h1, _, h2⟩
  rcases h with h | h
  · exact h1 h
  · grind
theorem ahead_still {s : St} {t q : Nat} (h : cgt t 0 = false) : aheadF s t q = s := by unfold aheadF; rw [h]; rfl

theorem xor_top (x : Nat) (h : x < 2 ^ 64) : x ^^^ 2 ^ 63 = fneg x := by
  have h1 : (x ^^^ 2 ^ 63) % 2 ^ 63 = x % 2 ^ 63 := by rw [Nat.xor_mod_two_pow]; exact Nat.xor_zero _
  have h2 : (x ^^^ 2 ^ 63) / 2 ^ 63 = x / 2 ^ 63 ^^^ 1 := by
    rw [← Nat.shiftRight_eq_div_pow, Nat.shiftRight_xor_distrib, Nat.shiftRight_eq_div_pow, Nat.shiftRight_eq_div_pow]
  have h3 : x / 2 ^ 63 < 2 := by omega
  have h4 := Nat.div_add_mod (x ^^^ 2 ^ 63) (2 ^ 63)
  rw [h1, h2] at h4
  unfold fneg wd sgn rg SGN
  simp only [show (9223372036854775808 : Nat) = 2 ^ 63 from rfl]
  have h6 : x / 2 ^ 63 = 0 ∨ x / 2 ^ 63 = 1 := by omega
  generalize x ^^^ 2 ^ 63 = y at *
  rcases h6 with h5 | h5
  · rw [h5, show (0 : Nat) ^^^ 1 = 1 from rfl] at h4
    rw [h5]
    simp only [Nat.zero_mod, show ((0 : Nat) == 1) = false from rfl, Bool.not_false, if_true]
    omega
  · rw [h5, show (1 : Nat) ^^^ 1 = 0 from rfl] at h4
    rw [h5]
    simp only [show (1 : Nat) % 2 = 1 from rfl, beq_self_eq_true, Bool.not_true, Bool.false_eq_true, if_false]
    omega
theorem neg_fneg (x : Nat) (h : x < 2 ^ 64) : Op.negFloat .f64 x = fneg x := xor_top x h
@[go_sem] theorem run_neg_float (x : Nat) (w : World) : (Op.unary UnOp.neg (.float .f64 x)).run Try.prog w = .ok (.float .f64 (Op.negFloat .f64 x)) w := rfl

/-- what the calls of the loop's test hand back -/
structure TU (s : St) (f : FuncId) (args : Array Value) (u : Value) (w : World) : Prop where
  a : f = 15 → ∃ a b c d e, u = stv a b c d e ∧ IsS ⟨a, b, c, d, e⟩ s
  b : f = 19 → ∀ a b c d e a' b' c' d' e', args = #[stv a b c d e, stv a' b' c' d' e'] → u = .bool (sameS ⟨a, b, c, d, e⟩ ⟨a', b', c', d', e'⟩)
theorem tu_a {a b c d f t q : Nat} (hl : St.Lt ⟨a, b, c, d, f⟩) (h : cgt t 0 = false) (w : World) : Calls Try.prog 15 #[stv a b c d f, .float .f64 t, .float .f64 q] w (fun e w'' => ∃ u, e = .returned u ∧ TU ⟨a, b, c, d, f⟩ 15 #[stv a b c d f, .float .f64 t, .float .f64 q] u w'' ∧ Ext w w'') :=
  (ahead_walk _ _ _ _ _ _ _ w hl).mono fun e w' ⟨a', b', c', d', e', he, ⟨hs, _⟩, hb⟩ => ⟨_, he, ⟨fun _ => ⟨a', b', c', d', e', rfl, by rw [ahead_still h] at hs; exact hs⟩, (fun h => absurd h (by decide))⟩, hb⟩
theorem tu_b {s : St} {a b c d f a' b' c' d' f' : Nat} (w : World) : Calls Try.prog 19 #[stv a b c d f, stv a' b' c' d' f'] w (fun e w'' => ∃ u, e = .returned u ∧ TU s 19 #[stv a b c d f, stv a' b' c' d' f'] u w'' ∧ Ext w w'') :=
  (same_walk _ _ _ _ _ _ _ _ _ _ w).mono fun e w' ⟨he, hb⟩ => ⟨_, he, ⟨(fun h => absurd h (by decide)), fun _ p1 p2 p3 p4 p5 q1 q2 q3 q4 q5 h => by
    simp only [stv, Array.mk.injEq, List.cons.injEq, Value.agg.injEq, Value.float.injEq, true_and, and_true] at h
    obtain ⟨⟨rfl, rfl, rfl, rfl, rfl⟩, rfl, rfl, rfl, rfl, rfl⟩ := h
    rfl⟩, hb⟩
theorem AtS.keepC {W w' : World} {B a b c d f : Nat} (h : AtS W B a b c d f) (hB : B < W.heap.size) (hb : ∀ b i, b < W.heap.size → w'.cell? ⟨b, i, none⟩ = W.cell? ⟨b, i, none⟩) : AtS w' B a b c d f := by
  obtain ⟨h0, h1, h2, h3, h4⟩ := h
  exact ⟨(hb _ _ hB).trans h0, (hb _ _ hB).trans h1, (hb _ _ hB).trans h2, (hb _ _ hB).trans h3, (hb _ _ hB).trans h4⟩
/-- the three times -/
def At3 (W : World) (B x y z : Nat) : Prop := W.cell? ⟨B, 0, none⟩ = some (.float .f64 x) ∧ W.cell? ⟨B, 1, none⟩ = some (.float .f64 y) ∧ W.cell? ⟨B, 2, none⟩ = some (.float .f64 z)
theorem At3.keepC {W w' : World} {B x y z : Nat} (h : At3 W B x y z) (hB : B < W.heap.size) (hb : ∀ b i, b < W.heap.size → w'.cell? ⟨b, i, none⟩ = W.cell? ⟨b, i, none⟩) : At3 w' B x y z :=
  ⟨(hb _ _ hB).trans h.1, (hb _ _ hB).trans h.2.1, (hb _ _ hB).trans h.2.2⟩
theorem At3.keep {W w' : World} {B x y z : Nat} (h : At3 W B x y z) (hB : B < W.heap.size) (hb : Below W.heap.size W w') : At3 w' B x y z := h.keepC hB (bcell hb).1

set_option maxHeartbeats 8000000 in
theorem stays_law (a b c d f nz q l : Nat) (w : World) (hl : St.Lt ⟨a, b, c, d, f⟩) (hll : l < 2 ^ 64) :
    Calls Try.prog 6 #[stv a b c d f, .agg #[.float .f64 nz, .float .f64 q, .float .f64 l]] w (fun e w' => e = .returned (.bool true) ∧ Below w.heap.size w w') := by
  have HL := Lib.hid hl
  clear hl
  go_enter Try.func6, Try.ntmps6
  go_wp2_with fail
  refine wp_region_drew (fun _ _ _ => False) (by kernel_rfl) (by kernel_rfl) ?_
  repeat' (refine wpSet_step (fun K hK => ?_); go_simp; first | (refine drew_float (x := ?_) (y := ?_) (X := ?_) (Y := ?_) rfl ?_ ?_ ?_ ?_ ?_ ?_; rotate_left 4; (· rfl); (· rfl); (· rfl); (· first | assumption | exact Is.refl _); (· first | assumption | exact Is.refl _); intro v hv hl; refine hK _ ?_; clear hK K) | (refine drew_value (v := ?_) (fun n => ?_) ?_; rotate_left; (· go_simp; rfl); (refine hK _ ?_; clear hK K)))
  refine wpSet_nil ?_
  intro n1
  go_wp2_with (first | (go_at_call 24; refine (abs_walk _ _ hll).mono ?_; rintro e w1 ⟨rfl, rfl⟩) | (go_at_call 25; refine (nan_walk _).mono ?_; rintro e w1 ⟨rfl, rfl⟩))
  have N0 : Hid (cgt 0 0 = false) := Lib.hid (by decide +kernel)
  have N1 : Hid (cgt (Op.negFloat .f64 (fabs l)) 0 = false) := Lib.hid (by
    rw [neg_fneg _ (fabs_lt l)]
    refine not_after (.inr ?_)
    rw [ev_fneg]
    have := ev_nonneg_of_sgn (sgn_fabs l)
    grind)
  have N2 : Hid (cgt qn 0 = false) := Lib.hid (not_after (.inl nan_qn))
  generalize Op.negFloat .f64 (fabs l) = less at *
  go_loopw [9] (fun i wr => ∃ k : Nat, k ≤ 3 ∧ i = .int .i64 k ∧ AtS wr w.heap.size a b c d f ∧ At3 wr (w.heap.size + 1 + 1) 0 less qn ∧ Below w.heap.size w wr ∧ w.heap.size + 1 + 1 < wr.heap.size)
    (fun i _ => 3 - (intOf i).toNat)
  case atStart => exact ⟨0, by omega, rfl, (by refine ⟨?_, ?_, ?_, ?_, ?_⟩ <;> go_simp), (by refine ⟨?_, ?_, ?_⟩ <;> go_simp), (by (repeat' (first | assumption | exact Below.refl _ _ | refine below_drewN ?_ _ | refine Below.setCell ?_ (by first | exact Nat.le_refl _ | (simp; done) | (simp; omega)) _ | refine Below.alloc ?_ (by first | exact Nat.le_refl _ | (simp; done) | (simp; omega) | omega) _))), by simp⟩
  case round =>
    obtain ⟨k, hk, rfl, hA, hT, hbw, hz⟩ := hrel
    have HA := Lib.hid hA
    have HT := Lib.hid hT
    have HW := Lib.hid hbw
    clear hA hT hbw
    by_cases hlt : k < 3
    · have hk3 : k = 0 ∨ k = 1 ∨ k = 2 := by omega
      clear hlt hk
      rcases hk3 with rfl | rfl | rfl
      all_goals
        go_wp2_with fail
        refine wp_region_G (TU ⟨a, b, c, d, f⟩) (by kernel_rfl) (by kernel_rfl) ?_
        repeat' (refine wpG_step' (fun K hA hK => ?_); go_simp; first | (refine bothG_value hA (v := ?_) (fun w' hw' => ?_) ?_; rotate_left; (· go_simp; rfl); (refine hK _ _ ?_; clear hK hA K)) | (refine bothG_call (f := 15) (args := ?_) (fun w' => ?_) (fun w' _ => ?_) ?_; rotate_left; (· go_simp; rfl); (· exact tu_a HL.out (by first | exact N0.out | exact N1.out | exact N2.out) _); (intro u x hu; obtain ⟨r1, r2, r3, r4, r5, rfl, hr⟩ := hu.a rfl; clear hu; refine hK _ _ ?_; clear hK hA K)) | (refine bothG_call (f := 19) (args := ?_) (fun w' => ?_) (fun w' _ => ?_) ?_; rotate_left; (· go_simp; rfl); (· exact tu_b _); (intro u x hu; obtain rfl := (hu.b rfl _ _ _ _ _ _ _ _ _ _ rfl).trans (congrArg _ (sameS_is hr)); clear hu; refine hK _ _ ?_; clear hK hA K)) | (refine bothG_value hA (v := ?_) (fun w' hw' => ?_) ?_; rotate_left; (· obtain ⟨a0, a1, a2, a3, a4⟩ := AtS.keepC HA.out (by omega) hw'; obtain ⟨t0, t1, t2⟩ := At3.keepC HT.out (by omega) hw'; clear hw'; go_simp; rfl); (refine hK _ _ ?_; clear hK hA K)))
        refine wpG_nil ?_
        intro w2 hb2 hF
        clear hF
        have hz2 := hb2.size
        have PA := Lib.hid (HA.out.keep (by omega) hb2)
        have PT := Lib.hid (HT.out.keep (by omega) hb2)
        have KV : Hid (Below w.heap.size w w2) := Lib.hid (HW.out.trans (hb2.mono (by omega)))
        clear hb2
        go_wp2_with fail
        go_roundw
      case rel => exact ⟨1, by omega, by go_num, PA.out, PT.out, KV.out, by omega⟩
      case measure => simp [intOf]
      case rel => exact ⟨2, by omega, by go_num, PA.out, PT.out, KV.out, by omega⟩
      case measure => simp [intOf]
      case rel => exact ⟨3, by omega, by go_num, PA.out, PT.out, KV.out, by omega⟩
      case measure => simp [intOf]
    · obtain rfl : k = 3 := by omega
      obtain ⟨p0, p1, p2, p3, p4⟩ := HA.out
      have hbw := HW.out
      have hz' : w.heap.size < wr.heap.size := by omega
      clear HT N0 N1 N2 HW HA hk hlt
      by_cases hFa : Lk.Fin a
      · have HFa := Lib.hid hFa
        by_cases hFb : Lk.Fin b
        · have HFb := Lib.hid hFb
          cases hH : cgt (fadd c nz) 0
          · have H1 := Lib.hid hH
            clear hH
            go_wp2_with (first | (((with_reducible refine wpList_float (x := ?_) (y := ?_) (X := ?_) (Y := ?_) rfl rfl ?_ ?_ ?_ ?_ ?_ ?_); (· rfl); (rotate_left 4); (· rfl); (· rfl); (· first | assumption | exact Is.refl _); (· first | assumption | exact Is.refl _); intro v n hv hl); first | (have e1 : (FloatKind.f64.format.order v 0 == some Ordering.gt) = _ := (cgt_is hv (Is.refl 0)).trans H1.out) | (have e2 := (is_fin hv).2 HK.out) | (have e2 := (is_fin hv).2 HH.out) | (have e2 := mt (is_fin hv).1 HK.out) | (have e2 := mt (is_fin hv).1 HH.out) | skip) | (go_at_call 26; refine (isfin_walk _ _).mono ?_; rintro e w1 ⟨rfl, rfl⟩) | (go_at_call 17; refine (seen_walk _ _ _ _ _ _ _ _ HL.out).mono ?_; rintro e w1 ⟨a', b', c', d', f', rfl, ⟨hs, _⟩, hb⟩; obtain ⟨g1, g2⟩ := seen_still_raw HFa.out HFb.out H1.out HK.out HH.out hs; clear hs; obtain ⟨p0, p1, p2, p3, p4⟩ := AtS.keep (B := w.heap.size) (a := a) (b := b) (c := c) (d := d) (f := f) (by refine ⟨?_, ?_, ?_, ?_, ?_⟩ <;> go_simp) (by first | (simp; omega) | omega) hb; have hz : w.heap.size < w1.heap.size := (by have := hb.size; first | omega | (simp at this; omega)); have hB : Below w.heap.size w w1 := (by refine Below.trans ?_ (hb.mono ?_); (· (repeat' (first | assumption | exact Below.refl _ _ | refine below_drewN ?_ _ | refine Below.setCell ?_ (by first | exact Nat.le_refl _ | (simp; done) | (simp; omega)) _ | refine Below.alloc ?_ (by first | exact Nat.le_refl _ | (simp; done) | (simp; omega) | omega) _))); (· first | (simp; omega) | omega)); clear hb) | (go_at_call 20; refine (wakes_walk _).mono ?_; rintro e w1 ⟨rfl, hb⟩; obtain ⟨p0, p1, p2, p3, p4⟩ := AtS.keep (B := w.heap.size) (a := a) (b := b) (c := c) (d := d) (f := f) (by refine ⟨?_, ?_, ?_, ?_, ?_⟩ <;> go_simp) (by first | (simp; omega) | omega) hb; have hz : w.heap.size < w1.heap.size := (by have := hb.size; first | omega | (simp at this; omega)); have hB : Below w.heap.size w w1 := (by refine Below.trans ?_ (hb.mono ?_); (· (repeat' (first | assumption | exact Below.refl _ _ | refine below_drewN ?_ _ | refine Below.setCell ?_ (by first | exact Nat.le_refl _ | (simp; done) | (simp; omega)) _ | refine Below.alloc ?_ (by first | exact Nat.le_refl _ | (simp; done) | (simp; omega) | omega) _))); (· first | (simp; omega) | omega)); clear hb))
            all_goals (go_ret; exact ⟨rfl, by assumption⟩)
          · have H1 := Lib.hid hH
            clear hH
            by_cases hK : Lk.Fin (fdiv c (fadd c nz))
            · have HK := Lib.hid hK
              clear hK
              by_cases hH : Lk.Fin (fdiv d (fadd c nz))
              · have HH := Lib.hid hH
                clear hH
                by_cases hn : Lk.Fin nz
                · go_wp2_with (first | (((with_reducible refine wpList_float (x := ?_) (y := ?_) (X := ?_) (Y := ?_) rfl rfl ?_ ?_ ?_ ?_ ?_ ?_); (· rfl); (rotate_left 4); (· rfl); (· rfl); (· first | assumption | exact Is.refl _); (· first | assumption | exact Is.refl _); intro v n hv hl); first | (have e1 : (FloatKind.f64.format.order v 0 == some Ordering.gt) = _ := (cgt_is hv (Is.refl 0)).trans H1.out) | (have e2 := (is_fin hv).2 HK.out) | (have e2 := (is_fin hv).2 HH.out) | (have e2 := mt (is_fin hv).1 HK.out) | (have e2 := mt (is_fin hv).1 HH.out) | skip) | (go_at_call 26; refine (isfin_walk _ _).mono ?_; rintro e w1 ⟨rfl, rfl⟩) | (go_at_call 17; refine (seen_walk _ _ _ _ _ _ _ _ HL.out).mono ?_; rintro e w1 ⟨a', b', c', d', f', rfl, ⟨hs, _⟩, hb⟩; obtain ⟨g1, g2⟩ := seen_still_raw HFa.out HFb.out H1.out HK.out HH.out hs; clear hs; obtain ⟨p0, p1, p2, p3, p4⟩ := AtS.keep (B := w.heap.size) (a := a) (b := b) (c := c) (d := d) (f := f) (by refine ⟨?_, ?_, ?_, ?_, ?_⟩ <;> go_simp) (by first | (simp; omega) | omega) hb; have hz : w.heap.size < w1.heap.size := (by have := hb.size; first | omega | (simp at this; omega)); have hB : Below w.heap.size w w1 := (by refine Below.trans ?_ (hb.mono ?_); (· (repeat' (first | assumption | exact Below.refl _ _ | refine below_drewN ?_ _ | refine Below.setCell ?_ (by first | exact Nat.le_refl _ | (simp; done) | (simp; omega)) _ | refine Below.alloc ?_ (by first | exact Nat.le_refl _ | (simp; done) | (simp; omega) | omega) _))); (· first | (simp; omega) | omega)); clear hb) | (go_at_call 20; refine (wakes_walk _).mono ?_; rintro e w1 ⟨rfl, hb⟩; obtain ⟨p0, p1, p2, p3, p4⟩ := AtS.keep (B := w.heap.size) (a := a) (b := b) (c := c) (d := d) (f := f) (by refine ⟨?_, ?_, ?_, ?_, ?_⟩ <;> go_simp) (by first | (simp; omega) | omega) hb; have hz : w.heap.size < w1.heap.size := (by have := hb.size; first | omega | (simp at this; omega)); have hB : Below w.heap.size w w1 := (by refine Below.trans ?_ (hb.mono ?_); (· (repeat' (first | assumption | exact Below.refl _ _ | refine below_drewN ?_ _ | refine Below.setCell ?_ (by first | exact Nat.le_refl _ | (simp; done) | (simp; omega)) _ | refine Below.alloc ?_ (by first | exact Nat.le_refl _ | (simp; done) | (simp; omega) | omega) _))); (· first | (simp; omega) | omega)); clear hb))
                  all_goals (go_ret; exact ⟨rfl, by assumption⟩)
                · go_wp2_with (first | (((with_reducible refine wpList_float (x := ?_) (y := ?_) (X := ?_) (Y := ?_) rfl rfl ?_ ?_ ?_ ?_ ?_ ?_); (· rfl); (rotate_left 4); (· rfl); (· rfl); (· first | assumption | exact Is.refl _); (· first | assumption | exact Is.refl _); intro v n hv hl); first | (have e1 : (FloatKind.f64.format.order v 0 == some Ordering.gt) = _ := (cgt_is hv (Is.refl 0)).trans H1.out) | (have e2 := (is_fin hv).2 HK.out) | (have e2 := (is_fin hv).2 HH.out) | (have e2 := mt (is_fin hv).1 HK.out) | (have e2 := mt (is_fin hv).1 HH.out) | skip) | (go_at_call 26; refine (isfin_walk _ _).mono ?_; rintro e w1 ⟨rfl, rfl⟩) | (go_at_call 17; refine (seen_walk _ _ _ _ _ _ _ _ HL.out).mono ?_; rintro e w1 ⟨a', b', c', d', f', rfl, ⟨hs, _⟩, hb⟩; obtain ⟨g1, g2⟩ := seen_still_raw HFa.out HFb.out H1.out HK.out HH.out hs; clear hs; obtain ⟨p0, p1, p2, p3, p4⟩ := AtS.keep (B := w.heap.size) (a := a) (b := b) (c := c) (d := d) (f := f) (by refine ⟨?_, ?_, ?_, ?_, ?_⟩ <;> go_simp) (by first | (simp; omega) | omega) hb; have hz : w.heap.size < w1.heap.size := (by have := hb.size; first | omega | (simp at this; omega)); have hB : Below w.heap.size w w1 := (by refine Below.trans ?_ (hb.mono ?_); (· (repeat' (first | assumption | exact Below.refl _ _ | refine below_drewN ?_ _ | refine Below.setCell ?_ (by first | exact Nat.le_refl _ | (simp; done) | (simp; omega)) _ | refine Below.alloc ?_ (by first | exact Nat.le_refl _ | (simp; done) | (simp; omega) | omega) _))); (· first | (simp; omega) | omega)); clear hb) | (go_at_call 20; refine (wakes_walk _).mono ?_; rintro e w1 ⟨rfl, hb⟩; obtain ⟨p0, p1, p2, p3, p4⟩ := AtS.keep (B := w.heap.size) (a := a) (b := b) (c := c) (d := d) (f := f) (by refine ⟨?_, ?_, ?_, ?_, ?_⟩ <;> go_simp) (by first | (simp; omega) | omega) hb; have hz : w.heap.size < w1.heap.size := (by have := hb.size; first | omega | (simp at this; omega)); have hB : Below w.heap.size w w1 := (by refine Below.trans ?_ (hb.mono ?_); (· (repeat' (first | assumption | exact Below.refl _ _ | refine below_drewN ?_ _ | refine Below.setCell ?_ (by first | exact Nat.le_refl _ | (simp; done) | (simp; omega)) _ | refine Below.alloc ?_ (by first | exact Nat.le_refl _ | (simp; done) | (simp; omega) | omega) _))); (· first | (simp; omega) | omega)); clear hb))
                  all_goals (go_ret; exact ⟨rfl, by assumption⟩)
              · have HH := Lib.hid hH
                clear hH
                go_wp2_with (first | (((with_reducible refine wpList_float (x := ?_) (y := ?_) (X := ?_) (Y := ?_) rfl rfl ?_ ?_ ?_ ?_ ?_ ?_); (· rfl); (rotate_left 4); (· rfl); (· rfl); (· first | assumption | exact Is.refl _); (· first | assumption | exact Is.refl _); intro v n hv hl); first | (have e1 : (FloatKind.f64.format.order v 0 == some Ordering.gt) = _ := (cgt_is hv (Is.refl 0)).trans H1.out) | (have e2 := (is_fin hv).2 HK.out) | (have e2 := (is_fin hv).2 HH.out) | (have e2 := mt (is_fin hv).1 HK.out) | (have e2 := mt (is_fin hv).1 HH.out) | skip) | (go_at_call 26; refine (isfin_walk _ _).mono ?_; rintro e w1 ⟨rfl, rfl⟩) | (go_at_call 17; refine (seen_walk _ _ _ _ _ _ _ _ HL.out).mono ?_; rintro e w1 ⟨a', b', c', d', f', rfl, ⟨hs, _⟩, hb⟩; obtain ⟨g1, g2⟩ := seen_still_raw HFa.out HFb.out H1.out HK.out HH.out hs; clear hs; obtain ⟨p0, p1, p2, p3, p4⟩ := AtS.keep (B := w.heap.size) (a := a) (b := b) (c := c) (d := d) (f := f) (by refine ⟨?_, ?_, ?_, ?_, ?_⟩ <;> go_simp) (by first | (simp; omega) | omega) hb; have hz : w.heap.size < w1.heap.size := (by have := hb.size; first | omega | (simp at this; omega)); have hB : Below w.heap.size w w1 := (by refine Below.trans ?_ (hb.mono ?_); (· (repeat' (first | assumption | exact Below.refl _ _ | refine below_drewN ?_ _ | refine Below.setCell ?_ (by first | exact Nat.le_refl _ | (simp; done) | (simp; omega)) _ | refine Below.alloc ?_ (by first | exact Nat.le_refl _ | (simp; done) | (simp; omega) | omega) _))); (· first | (simp; omega) | omega)); clear hb) | (go_at_call 20; refine (wakes_walk _).mono ?_; rintro e w1 ⟨rfl, hb⟩; obtain ⟨p0, p1, p2, p3, p4⟩ := AtS.keep (B := w.heap.size) (a := a) (b := b) (c := c) (d := d) (f := f) (by refine ⟨?_, ?_, ?_, ?_, ?_⟩ <;> go_simp) (by first | (simp; omega) | omega) hb; have hz : w.heap.size < w1.heap.size := (by have := hb.size; first | omega | (simp at this; omega)); have hB : Below w.heap.size w w1 := (by refine Below.trans ?_ (hb.mono ?_); (· (repeat' (first | assumption | exact Below.refl _ _ | refine below_drewN ?_ _ | refine Below.setCell ?_ (by first | exact Nat.le_refl _ | (simp; done) | (simp; omega)) _ | refine Below.alloc ?_ (by first | exact Nat.le_refl _ | (simp; done) | (simp; omega) | omega) _))); (· first | (simp; omega) | omega)); clear hb))
                all_goals (go_ret; exact ⟨rfl, by assumption⟩)
            · have HK := Lib.hid hK
              clear hK
              go_wp2_with (first | (((with_reducible refine wpList_float (x := ?_) (y := ?_) (X := ?_) (Y := ?_) rfl rfl ?_ ?_ ?_ ?_ ?_ ?_); (· rfl); (rotate_left 4); (· rfl); (· rfl); (· first | assumption | exact Is.refl _); (· first | assumption | exact Is.refl _); intro v n hv hl); first | (have e1 : (FloatKind.f64.format.order v 0 == some Ordering.gt) = _ := (cgt_is hv (Is.refl 0)).trans H1.out) | (have e2 := (is_fin hv).2 HK.out) | (have e2 := (is_fin hv).2 HH.out) | (have e2 := mt (is_fin hv).1 HK.out) | (have e2 := mt (is_fin hv).1 HH.out) | skip) | (go_at_call 26; refine (isfin_walk _ _).mono ?_; rintro e w1 ⟨rfl, rfl⟩) | (go_at_call 17; refine (seen_walk _ _ _ _ _ _ _ _ HL.out).mono ?_; rintro e w1 ⟨a', b', c', d', f', rfl, ⟨hs, _⟩, hb⟩; obtain ⟨g1, g2⟩ := seen_still_raw HFa.out HFb.out H1.out HK.out HH.out hs; clear hs; obtain ⟨p0, p1, p2, p3, p4⟩ := AtS.keep (B := w.heap.size) (a := a) (b := b) (c := c) (d := d) (f := f) (by refine ⟨?_, ?_, ?_, ?_, ?_⟩ <;> go_simp) (by first | (simp; omega) | omega) hb; have hz : w.heap.size < w1.heap.size := (by have := hb.size; first | omega | (simp at this; omega)); have hB : Below w.heap.size w w1 := (by refine Below.trans ?_ (hb.mono ?_); (· (repeat' (first | assumption | exact Below.refl _ _ | refine below_drewN ?_ _ | refine Below.setCell ?_ (by first | exact Nat.le_refl _ | (simp; done) | (simp; omega)) _ | refine Below.alloc ?_ (by first | exact Nat.le_refl _ | (simp; done) | (simp; omega) | omega) _))); (· first | (simp; omega) | omega)); clear hb) | (go_at_call 20; refine (wakes_walk _).mono ?_; rintro e w1 ⟨rfl, hb⟩; obtain ⟨p0, p1, p2, p3, p4⟩ := AtS.keep (B := w.heap.size) (a := a) (b := b) (c := c) (d := d) (f := f) (by refine ⟨?_, ?_, ?_, ?_, ?_⟩ <;> go_simp) (by first | (simp; omega) | omega) hb; have hz : w.heap.size < w1.heap.size := (by have := hb.size; first | omega | (simp at this; omega)); have hB : Below w.heap.size w w1 := (by refine Below.trans ?_ (hb.mono ?_); (· (repeat' (first | assumption | exact Below.refl _ _ | refine below_drewN ?_ _ | refine Below.setCell ?_ (by first | exact Nat.le_refl _ | (simp; done) | (simp; omega)) _ | refine Below.alloc ?_ (by first | exact Nat.le_refl _ | (simp; done) | (simp; omega) | omega) _))); (· first | (simp; omega) | omega)); clear hb))
              all_goals (go_ret; exact ⟨rfl, by assumption⟩)
        · go_wp2_with (first | (((with_reducible refine wpList_float (x := ?_) (y := ?_) (X := ?_) (Y := ?_) rfl rfl ?_ ?_ ?_ ?_ ?_ ?_); (· rfl); (rotate_left 4); (· rfl); (· rfl); (· first | assumption | exact Is.refl _); (· first | assumption | exact Is.refl _); intro v n hv hl); first | (have e1 : (FloatKind.f64.format.order v 0 == some Ordering.gt) = _ := (cgt_is hv (Is.refl 0)).trans H1.out) | (have e2 := (is_fin hv).2 HK.out) | (have e2 := (is_fin hv).2 HH.out) | (have e2 := mt (is_fin hv).1 HK.out) | (have e2 := mt (is_fin hv).1 HH.out) | skip) | (go_at_call 26; refine (isfin_walk _ _).mono ?_; rintro e w1 ⟨rfl, rfl⟩) | (go_at_call 17; refine (seen_walk _ _ _ _ _ _ _ _ HL.out).mono ?_; rintro e w1 ⟨a', b', c', d', f', rfl, ⟨hs, _⟩, hb⟩; obtain ⟨g1, g2⟩ := seen_still_raw HFa.out HFb.out H1.out HK.out HH.out hs; clear hs; obtain ⟨p0, p1, p2, p3, p4⟩ := AtS.keep (B := w.heap.size) (a := a) (b := b) (c := c) (d := d) (f := f) (by refine ⟨?_, ?_, ?_, ?_, ?_⟩ <;> go_simp) (by first | (simp; omega) | omega) hb; have hz : w.heap.size < w1.heap.size := (by have := hb.size; first | omega | (simp at this; omega)); have hB : Below w.heap.size w w1 := (by refine Below.trans ?_ (hb.mono ?_); (· (repeat' (first | assumption | exact Below.refl _ _ | refine below_drewN ?_ _ | refine Below.setCell ?_ (by first | exact Nat.le_refl _ | (simp; done) | (simp; omega)) _ | refine Below.alloc ?_ (by first | exact Nat.le_refl _ | (simp; done) | (simp; omega) | omega) _))); (· first | (simp; omega) | omega)); clear hb) | (go_at_call 20; refine (wakes_walk _).mono ?_; rintro e w1 ⟨rfl, hb⟩; obtain ⟨p0, p1, p2, p3, p4⟩ := AtS.keep (B := w.heap.size) (a := a) (b := b) (c := c) (d := d) (f := f) (by refine ⟨?_, ?_, ?_, ?_, ?_⟩ <;> go_simp) (by first | (simp; omega) | omega) hb; have hz : w.heap.size < w1.heap.size := (by have := hb.size; first | omega | (simp at this; omega)); have hB : Below w.heap.size w w1 := (by refine Below.trans ?_ (hb.mono ?_); (· (repeat' (first | assumption | exact Below.refl _ _ | refine below_drewN ?_ _ | refine Below.setCell ?_ (by first | exact Nat.le_refl _ | (simp; done) | (simp; omega)) _ | refine Below.alloc ?_ (by first | exact Nat.le_refl _ | (simp; done) | (simp; omega) | omega) _))); (· first | (simp; omega) | omega)); clear hb))
          all_goals (go_ret; exact ⟨rfl, by assumption⟩)
      · go_wp2_with (first | (((with_reducible refine wpList_float (x := ?_) (y := ?_) (X := ?_) (Y := ?_) rfl rfl ?_ ?_ ?_ ?_ ?_ ?_); (· rfl); (rotate_left 4); (· rfl); (· rfl); (· first | assumption | exact Is.refl _); (· first | assumption | exact Is.refl _); intro v n hv hl); first | (have e1 : (FloatKind.f64.format.order v 0 == some Ordering.gt) = _ := (cgt_is hv (Is.refl 0)).trans H1.out) | (have e2 := (is_fin hv).2 HK.out) | (have e2 := (is_fin hv).2 HH.out) | (have e2 := mt (is_fin hv).1 HK.out) | (have e2 := mt (is_fin hv).1 HH.out) | skip) | (go_at_call 26; refine (isfin_walk _ _).mono ?_; rintro e w1 ⟨rfl, rfl⟩) | (go_at_call 17; refine (seen_walk _ _ _ _ _ _ _ _ HL.out).mono ?_; rintro e w1 ⟨a', b', c', d', f', rfl, ⟨hs, _⟩, hb⟩; obtain ⟨g1, g2⟩ := seen_still_raw HFa.out HFb.out H1.out HK.out HH.out hs; clear hs; obtain ⟨p0, p1, p2, p3, p4⟩ := AtS.keep (B := w.heap.size) (a := a) (b := b) (c := c) (d := d) (f := f) (by refine ⟨?_, ?_, ?_, ?_, ?_⟩ <;> go_simp) (by first | (simp; omega) | omega) hb; have hz : w.heap.size < w1.heap.size := (by have := hb.size; first | omega | (simp at this; omega)); have hB : Below w.heap.size w w1 := (by refine Below.trans ?_ (hb.mono ?_); (· (repeat' (first | assumption | exact Below.refl _ _ | refine below_drewN ?_ _ | refine Below.setCell ?_ (by first | exact Nat.le_refl _ | (simp; done) | (simp; omega)) _ | refine Below.alloc ?_ (by first | exact Nat.le_refl _ | (simp; done) | (simp; omega) | omega) _))); (· first | (simp; omega) | omega)); clear hb) | (go_at_call 20; refine (wakes_walk _).mono ?_; rintro e w1 ⟨rfl, hb⟩; obtain ⟨p0, p1, p2, p3, p4⟩ := AtS.keep (B := w.heap.size) (a := a) (b := b) (c := c) (d := d) (f := f) (by refine ⟨?_, ?_, ?_, ?_, ?_⟩ <;> go_simp) (by first | (simp; omega) | omega) hb; have hz : w.heap.size < w1.heap.size := (by have := hb.size; first | omega | (simp at this; omega)); have hB : Below w.heap.size w w1 := (by refine Below.trans ?_ (hb.mono ?_); (· (repeat' (first | assumption | exact Below.refl _ _ | refine below_drewN ?_ _ | refine Below.setCell ?_ (by first | exact Nat.le_refl _ | (simp; done) | (simp; omega)) _ | refine Below.alloc ?_ (by first | exact Nat.le_refl _ | (simp; done) | (simp; omega) | omega) _))); (· first | (simp; omega) | omega)); clear hb))
        all_goals (go_ret; exact ⟨rfl, by assumption⟩)

theorem stays_args (W : World) (base : Nat) (args : Array Value) (hsz : args.size = Try.f6.params.size) (hval : ∀ (j : Nat) t v, Try.f6.params[j]? = some t → args[j]? = some v → Value.okWide Try.prog W .any base t v) :
    Calls Try.prog 6 args W (fun e w' => e = .returned (.bool true) ∧ Below W.heap.size W w') := by
  rw [Try.params6] at hval hsz
  obtain ⟨l⟩ := args
  match l, hsz with
  | [v0, v1], _ =>
    obtain ⟨l0, e0, rfl, hb0⟩ := ok_floats (P := Try.prog) (t := 24) (tf := 22) 5 Try.underlying22 (by kernel_rfl) (by kernel_rfl) (by kernel_rfl) (hval 0 24 v0 rfl rfl)
    obtain ⟨l1, e1, rfl, hb1⟩ := ok_floats (P := Try.prog) (t := 40) (tf := 22) 3 Try.underlying22 (by kernel_rfl) (by kernel_rfl) (by kernel_rfl) (hval 1 40 v1 rfl rfl)
    match l0, e0, l1, e1, hb0, hb1 with
    | [a, b, c, d, f], _, [nz, q, l], _, hb0, hb1 =>
      exact stays_law a b c d f nz q l W ⟨hb0 a (by simp), hb0 b (by simp), hb0 c (by simp), hb0 d (by simp), hb0 f (by simp)⟩ (hb1 l (by simp))

set_option maxRecDepth 100000 in
theorem stays_lifted (os : Os) (started : os.Started) (H : Type) (enc : TypeId × Value → H) :
    ReturnsInHanded {} Try.checked os 6 .any (Rows.stateStaysSpec.pre6 enc Try.prog Try.f6 Rows.stateStaysRow.domain false) (Rows.stateStaysSpec.post enc Try.prog Try.f6 false true false false) :=
  law_lifted (C := Try.checked) Try.own started (by kernel_rfl) Try.func6
    (ChangeSpec.witness6 (enc := enc) (C := Try.checked) false ⟨#[], #[.agg #[.float .f64 0, .float .f64 0, .float .f64 0, .float .f64 0, .float .f64 0], .agg #[.float .f64 0, .float .f64 0, .float .f64 0]], []⟩ 8 (by kernel_rfl) (by kernel_rfl) (by kernel_rfl) (by kernel_rfl))
    Try.laidOut (fun t ht => by have ht2 : t ∈ Try.f6.params.toList := ht; rw [Try.params6] at ht2; simp only [List.mem_cons, List.not_mem_nil, or_false] at ht2; rcases ht2 with rfl | rfl <;> exact ⟨by kernel_rfl, of_decide_eq_true (by kernel_rfl)⟩)
    rfl Try.underlying4 rfl (fun ds hd => by have hd2 : ds.length = Try.f6.params.size := hd; rw [Try.params6] at hd2; match ds, hd2 with | [d1, d2], _ => exact ⟨rfl, rfl, rfl⟩) stays_args

theorem stays_holds : Rows.StateStaysSaid :=
  OpenClaim.holds_of_wide 6 Try.f6 rfl rfl rfl rfl rfl rfl rfl ⟨rfl, rfl, rfl, rfl, rfl⟩ rfl rfl rfl rfl rfl (by kernel_rfl) Try.func6 (by kernel_rfl)
    (of_decide_eq_true (by kernel_rfl)) (by unfold Func.isWrapper; first | (rw [if_pos (by decide +kernel)]; kernel_rfl) | (rw [if_neg (by decide +kernel)]; exact ⟨rfl, rfl⟩))
    (fun os started H enc _ => stays_lifted os started H enc)
#print axioms stays_holds
end Go.Proofs.Ytjpddkojclgkmaa
