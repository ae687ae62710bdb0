/-
  What is proved: for every state, time and sway the law StateSure returns true (a sure state stays a sure one, but for roundings), and its arguments read as before. No conditions.
-/
import Derived.Test.YtjpddkojclgkmaaStU
import Derived.Test.YtjpddkojclgkmaaFlZ
import Derived.Test.YtjpddkojclgkmaaStK
import Derived.Test.YtjpddkojclgkmaaLd
import Derived.Test.YtjpddkojclgkmaaFlG
import Derived.Test.YtjpddkojclgkmaaFlL
import Derived.Test.YtjpddkojclgkmaaRows
import Derived.ProofKit
import Derived.OpenShut
import Derived.WalkKit
import Derived.WalkLawsBesides
import Derived.WalkSpells
import Derived.BigQuiet
import Derived.Lib.Hide
import Derived.Outline
import Derived.LoopTactic
set_option autoImplicit false
set_option linter.unusedVariables false
namespace Go.Proofs.Ytjpddkojclgkmaa
open Go.RowKit Go.ChangeShapes Go.WideShapes Go.ChangeAt Lk

theorem Try.own : ownKnob Try.prog.godebug = none := by kernel_rfl
theorem Try.laidOut : laidOutB Try.prog = true := by kernel_rfl
def inb (x l u : Nat) : Bool := cge x l && cle x u
theorem within_walk (x : Nat) (k : Int) (l u : Nat) (w : World) (hk : 0 ≤ k ∧ k ≤ 1000) (hl : (l : Int) = (4607182418800017408 : Nat) + (-k) * 2 ^ 52) (nl : Norm l) (hu : (u : Int) = (4607182418800017408 : Nat) + k * 2 ^ 52) (nu : Norm u) :
    Calls Try.prog 29 #[.float .f64 x, .int .i64 k, .int .i64 k] w (fun e w' => e = .returned (.bool (inb x l u)) ∧ Below w.heap.size w w') := by
  have H : Hid (inb x l u = (cge x l && cle x u)) := Lib.hid rfl
  have N1 : Norm 4607182418800017408 := by unfold Norm INF; omega
  have hw : wrap64 (-k) = -k := by unfold wrap64; omega
  cases h1 : cge x l
  · have e1 : (FloatKind.f64.format.order x l == some Ordering.gt || FloatKind.f64.format.order x l == some Ordering.eq) = false := h1
    clear h1
    go_enter Try.func29, Try.ntmps29
    go_wp2_with fail
    refine (Ldexp_walk _ _ _ N1 l hl nl).mono ?_; rintro e w1 ⟨rfl, b1⟩
    go_wp2_with fail
    go_ret
    exact ⟨ret_bool (by rw [H.out, show cge x l = false from e1]; rfl), b1⟩
  · have e1 : (FloatKind.f64.format.order x l == some Ordering.gt || FloatKind.f64.format.order x l == some Ordering.eq) = true := h1
    clear h1
    go_enter Try.func29, Try.ntmps29
    go_wp2_with fail
    refine (Ldexp_walk _ _ _ N1 l hl nl).mono ?_; rintro e w1 ⟨rfl, b1⟩
    go_wp2_with fail
    refine (Ldexp_walk _ _ _ N1 u hu nu).mono ?_; rintro e w2 ⟨rfl, b2⟩
    go_wp2_with fail
    go_ret
    exact ⟨ret_bool (by rw [H.out, show cge x l = true from e1]; rfl), b1.trans (b2.mono b1.size)⟩
theorem within100 (x : Nat) (w : World) : Calls Try.prog 29 #[.float .f64 x, .int .i64 100, .int .i64 100] w (fun e w' => e = .returned (.bool (inb x 4156822456062967808 5057542381537067008)) ∧ Below w.heap.size w w') :=
  within_walk x 100 _ _ w (by decide) (by decide) (by unfold Norm INF; omega) (by decide) (by unfold Norm INF; omega)
theorem within20 (x : Nat) (w : World) : Calls Try.prog 29 #[.float .f64 x, .int .i64 20, .int .i64 20] w (fun e w' => e = .returned (.bool (inb x 4517110426252607488 4697254411347427328)) ∧ Below w.heap.size w w') :=
  within_walk x 20 _ _ w (by decide) (by decide) (by unfold Norm INF; omega) (by decide) (by unfold Norm INF; omega)
theorem inb_in {x l u : Nat} (h : inb x l u = true) : In x l u := by unfold inb at h; rw [Bool.and_eq_true] at h; exact h
/-- what the call of the region that draws hands back -/
structure TS (d : Nat) (f : FuncId) (args : Array Value) (u : Value) (w : World) : Prop where
  a : f = 24 → u = .float .f64 (fabs d)
theorem ts_a {d : Nat} (h : d < 2 ^ 64) (w : World) : Calls Try.prog 24 #[.float .f64 d] w (fun e' w'' => ∃ u, e' = .returned u ∧ TS d 24 #[.float .f64 d] u w'' ∧ Ext w w'') :=
  (abs_walk d w h).mono fun e' w' ⟨he, hb⟩ => ⟨_, he, ⟨fun _ => rfl⟩, hb ▸ Ext.refl _⟩
theorem new_at {w w5 : World} {B a b c d f a' b' c' d' f' : Nat} (A : AtS w5 B a b c d f) (hz : B < w5.heap.size) (hB : Below w.heap.size w w5) :
    AtS (w5.alloc (Obj.cells #[Value.float FloatKind.f64 a', Value.float FloatKind.f64 b', Value.float FloatKind.f64 c', Value.float FloatKind.f64 d', Value.float FloatKind.f64 f'] 24)) B a b c d f ∧
    AtS (w5.alloc (Obj.cells #[Value.float FloatKind.f64 a', Value.float FloatKind.f64 b', Value.float FloatKind.f64 c', Value.float FloatKind.f64 d', Value.float FloatKind.f64 f'] 24)) w5.heap.size a' b' c' d' f' ∧
    B < (w5.alloc (Obj.cells #[Value.float FloatKind.f64 a', Value.float FloatKind.f64 b', Value.float FloatKind.f64 c', Value.float FloatKind.f64 d', Value.float FloatKind.f64 f'] 24)).heap.size ∧
    w5.heap.size < (w5.alloc (Obj.cells #[Value.float FloatKind.f64 a', Value.float FloatKind.f64 b', Value.float FloatKind.f64 c', Value.float FloatKind.f64 d', Value.float FloatKind.f64 f'] 24)).heap.size ∧
    Below w.heap.size w (w5.alloc (Obj.cells #[Value.float FloatKind.f64 a', Value.float FloatKind.f64 b', Value.float FloatKind.f64 c', Value.float FloatKind.f64 d', Value.float FloatKind.f64 f'] 24)) := by
  have hn : (w5.alloc (Obj.cells #[Value.float FloatKind.f64 a', Value.float FloatKind.f64 b', Value.float FloatKind.f64 c', Value.float FloatKind.f64 d', Value.float FloatKind.f64 f'] 24)).heap[w5.heap.size]? = some (.cells #[Value.float FloatKind.f64 a', Value.float FloatKind.f64 b', Value.float FloatKind.f64 c', Value.float FloatKind.f64 d', Value.float FloatKind.f64 f'] 24 (0, 0)) := by
    show (w5.heap.push _)[w5.heap.size]? = _; simp
  have hs : (w5.alloc (Obj.cells #[Value.float FloatKind.f64 a', Value.float FloatKind.f64 b', Value.float FloatKind.f64 c', Value.float FloatKind.f64 d', Value.float FloatKind.f64 f'] 24)).heap.size = w5.heap.size + 1 := by simp
  exact ⟨A.keep hz ((Below.refl _ _).alloc (Nat.le_refl _) _), ⟨cell_of_heap hn 0, cell_of_heap hn 1, cell_of_heap hn 2, cell_of_heap hn 3, cell_of_heap hn 4⟩, by omega, by omega, hB.alloc hB.size _⟩
set_option maxHeartbeats 8000000 in
theorem sure_law (a b c d f t q : Nat) (w : World) (hl : St.Lt ⟨a, b, c, d, f⟩) :
    Calls Try.prog 9 #[stv a b c d f, .float .f64 t, .float .f64 q] w (fun e w' => e = .returned (.bool true) ∧ Below w.heap.size w w') := by
  have HL := Lib.hid hl
  clear hl
  go_enter Try.func9, Try.ntmps9
  go_wp2_with fail
  refine (within100 c _).mono ?_; rintro e w1 ⟨rfl, b1⟩
  have A := AtS.keep (B := w.heap.size) (a := a) (b := b) (c := c) (d := d) (f := f) (by refine ⟨?_, ?_, ?_, ?_, ?_⟩ <;> go_simp) (by simp) b1
  have hz : w.heap.size < w1.heap.size := by have := b1.size; simp at this; omega
  have hB : Below w.heap.size w w1 := ((Below.refl _ _).alloc (Nat.le_refl _) _).trans (b1.mono (by simp))
  clear b1
  obtain ⟨p0, p1, p2, p3, p4⟩ := A
  cases i1 : inb c 4156822456062967808 5057542381537067008
  · go_wp2_with fail
    refine (wakes_walk _).mono ?_; rintro e wk ⟨rfl, bb⟩
    have A := AtS.keep (B := w.heap.size) (a := a) (b := b) (c := c) (d := d) (f := f) ⟨p0, p1, p2, p3, p4⟩ hz bb; clear p0 p1 p2 p3 p4; obtain ⟨p0, p1, p2, p3, p4⟩ := A; replace hB := hB.trans (bb.mono hB.size); replace hz := Nat.lt_of_lt_of_le hz bb.size; clear bb
    go_wp2_with fail
    go_ret
    exact ⟨rfl, hB⟩
  · go_wp2_with fail
    refine (within100 f _).mono ?_; rintro e w2 ⟨rfl, bb⟩
    have A := AtS.keep (B := w.heap.size) (a := a) (b := b) (c := c) (d := d) (f := f) ⟨p0, p1, p2, p3, p4⟩ hz bb; clear p0 p1 p2 p3 p4; obtain ⟨p0, p1, p2, p3, p4⟩ := A; replace hB := hB.trans (bb.mono hB.size); replace hz := Nat.lt_of_lt_of_le hz bb.size; clear bb
    cases i2 : inb f 4156822456062967808 5057542381537067008
    · go_wp2_with fail
      refine (wakes_walk _).mono ?_; rintro e wk ⟨rfl, bb⟩
      have A := AtS.keep (B := w.heap.size) (a := a) (b := b) (c := c) (d := d) (f := f) ⟨p0, p1, p2, p3, p4⟩ hz bb; clear p0 p1 p2 p3 p4; obtain ⟨p0, p1, p2, p3, p4⟩ := A; replace hB := hB.trans (bb.mono hB.size); replace hz := Nat.lt_of_lt_of_le hz bb.size; clear bb
      go_wp2_with fail
      go_ret
      exact ⟨rfl, hB⟩
    · go_wp2_with fail
      refine (within20 t _).mono ?_; rintro e w3 ⟨rfl, bb⟩
      have A := AtS.keep (B := w.heap.size) (a := a) (b := b) (c := c) (d := d) (f := f) ⟨p0, p1, p2, p3, p4⟩ hz bb; clear p0 p1 p2 p3 p4; obtain ⟨p0, p1, p2, p3, p4⟩ := A; replace hB := hB.trans (bb.mono hB.size); replace hz := Nat.lt_of_lt_of_le hz bb.size; clear bb
      cases i3 : inb t 4517110426252607488 4697254411347427328
      · go_wp2_with fail
        refine (wakes_walk _).mono ?_; rintro e wk ⟨rfl, bb⟩
        have A := AtS.keep (B := w.heap.size) (a := a) (b := b) (c := c) (d := d) (f := f) ⟨p0, p1, p2, p3, p4⟩ hz bb; clear p0 p1 p2 p3 p4; obtain ⟨p0, p1, p2, p3, p4⟩ := A; replace hB := hB.trans (bb.mono hB.size); replace hz := Nat.lt_of_lt_of_le hz bb.size; clear bb
        go_wp2_with fail
        go_ret
        exact ⟨rfl, hB⟩
      · cases j : ceq q 0
        · have j' : (FloatKind.f64.format.order q 0 == some Ordering.eq) = false := j
          go_wp2_with fail
          refine (within100 q _).mono ?_; rintro e w4 ⟨rfl, bb⟩
          have A := AtS.keep (B := w.heap.size) (a := a) (b := b) (c := c) (d := d) (f := f) ⟨p0, p1, p2, p3, p4⟩ hz bb; clear p0 p1 p2 p3 p4; obtain ⟨p0, p1, p2, p3, p4⟩ := A; replace hB := hB.trans (bb.mono hB.size); replace hz := Nat.lt_of_lt_of_le hz bb.size; clear bb
          cases i4 : inb q 4156822456062967808 5057542381537067008
          · go_wp2_with fail
            refine (wakes_walk _).mono ?_; rintro e wk ⟨rfl, bb⟩
            have A := AtS.keep (B := w.heap.size) (a := a) (b := b) (c := c) (d := d) (f := f) ⟨p0, p1, p2, p3, p4⟩ hz bb; clear p0 p1 p2 p3 p4; obtain ⟨p0, p1, p2, p3, p4⟩ := A; replace hB := hB.trans (bb.mono hB.size); replace hz := Nat.lt_of_lt_of_le hz bb.size; clear bb
            go_wp2_with fail
            go_ret
            exact ⟨rfl, hB⟩
          · have hq0 : ceq q 0 = true ∨ In q 4156822456062967808 5057542381537067008 := .inr (inb_in i4)
            clear i4 j
            have Q := Lib.hid hq0
            clear hq0
            have I1 := Lib.hid i1
            have I2 := Lib.hid i2
            have I3 := Lib.hid i3
            clear i1 i2 i3
            cases htest : cle (fmul d d) (fmul KW (fmul c f))
            · have HT := Lib.hid htest
              clear htest
              go_wp2_with (((with_reducible refine wpList_floatg (x := ?_) (y := ?_) (X := ?_) (Y := ?_) rfl rfl ?_ ?_ ?_ ?_ ?_ ?_ ?_); (· rfl); (· rfl); (rotate_left 4); (· rfl); (· rfl); (· first | assumption | exact Is.refl _); (· first | assumption | exact Is.refl _); intro v n hv hl); first | (have e1 : (FloatKind.f64.format.order _ _ == some Ordering.lt || FloatKind.f64.format.order _ _ == some Ordering.eq) = false := (cle_is ‹Is _ (fop BinOp.mul d d)› hv).trans HT.out) | skip)
              refine (wakes_walk _).mono ?_; rintro e wk ⟨rfl, bb⟩
              replace hB := (below_drewN hB _).trans (bb.mono hB.size)
              go_wp2_with fail
              go_ret
              exact ⟨rfl, hB⟩
            · have HT := Lib.hid htest
              clear htest
              go_wp2_with (((with_reducible refine wpList_floatg (x := ?_) (y := ?_) (X := ?_) (Y := ?_) rfl rfl ?_ ?_ ?_ ?_ ?_ ?_ ?_); (· rfl); (· rfl); (rotate_left 4); (· rfl); (· rfl); (· first | assumption | exact Is.refl _); (· first | assumption | exact Is.refl _); intro v n hv hl); first | (have e1 : (FloatKind.f64.format.order _ _ == some Ordering.lt || FloatKind.f64.format.order _ _ == some Ordering.eq) = true := (cle_is ‹Is _ (fop BinOp.mul d d)› hv).trans HT.out) | skip)
              refine (ahead_walk _ _ _ _ _ _ _ _ HL.out).mono ?_; rintro e w5 ⟨a', b', c', d', f', rfl, ⟨hs, hl'⟩, bb⟩
              have A := AtS.keep (W := _) (B := w.heap.size) (a := a) (b := b) (c := c) (d := d) (f := f) (show AtS (w4.drewN _) w.heap.size a b c d f from ⟨p0, p1, p2, p3, p4⟩) hz bb
              clear p0 p1 p2 p3 p4
              obtain ⟨p0, p1, p2, p3, p4⟩ := A
              replace hB := (below_drewN hB _).trans (bb.mono hB.size)
              replace hz : w.heap.size < w5.heap.size := Nat.lt_of_lt_of_le hz bb.size
              clear bb e1 hv
              obtain ⟨m, em, ⟨y1, y2, y3, y4, y5, y6⟩, y7, y8⟩ := sure_word (s := ⟨a, b, c, d, f⟩) (t := t) (q := q) (inb_in I1.out) (inb_in I2.out) (inb_in I3.out) Q.out HT.out
              have g1 : c' = (aheadF ⟨a, b, c, d, f⟩ t q).pxx := hs.pxx.eq y1.not_nan
              have g2 : f' = (aheadF ⟨a, b, c, d, f⟩ t q).pvv := hs.pvv.eq y2.not_nan
              have g3 : d' = (aheadF ⟨a, b, c, d, f⟩ t q).pxv := hs.pxv.eq y7.not_nan
              rw [← g1, ← g2] at em
              rw [← g1] at y1
              rw [← g2] at y2
              rw [← g1, ← g2, ← g3] at y8
              clear g1 g2 g3 hs y7 HT Q
              have hmx := fun ts ty w => run_max6 (P := Try.prog) y1.not_nan y2.not_nan (in100 (inb_in I1.out)).1.not_nan y4.not_nan y5.not_nan y6.not_nan ts ty w
              simp only at hmx em
              rw [← em] at hmx
              clear em
              have Y := Lib.hid y8
              have Y3 := Lib.hid y3.not_nan
              have Y4 := Lib.hid y4.not_nan
              have Y5 := Lib.hid y5.not_nan
              have Y6 := Lib.hid y6.not_nan
              clear y1 y2 y3 y4 y5 y6 y8 I1 I2 I3
              go_wp2_with fail
              have hmx' : ∀ (ts : Array TypeId) (ty : TypeId) (w : World), (Builtin.max_ ts ty #[.float .f64 c', .float .f64 f', .float .f64 c, .float .f64 (fop BinOp.mul (fop BinOp.mul t t) f), .float .f64 (fop BinOp.mul t f), .float .f64 (fop BinOp.mul t (fabs d))]).run Try.prog w = .ok (.float .f64 m) w := hmx
              clear hmx
              obtain ⟨⟨x0, x1, x2, x3, x4⟩, ⟨n0, n1, n2, n3, n4⟩, z1, z2, hB'⟩ := new_at (a' := a') (b' := b') (c' := c') (d' := d') (f' := f') ⟨p0, p1, p2, p3, p4⟩ hz hB
              clear p0 p1 p2 p3 p4 hB hz
              generalize hW6 : w5.alloc (Obj.cells #[Value.float FloatKind.f64 a', Value.float FloatKind.f64 b', Value.float FloatKind.f64 c', Value.float FloatKind.f64 d', Value.float FloatKind.f64 f'] 24) = W6 at *
              clear hW6
              refine wp_region_G (TS d) (by kernel_rfl) (by kernel_rfl) ?_
              repeat' (refine wpG_step' (fun K hA hK => ?_); go_simp; first | (refine bothG_value hA (v := ?_) (fun w' hw' => ?_) ?_; rotate_left; (· go_simp; rfl); (refine hK _ _ ?_; clear hK hA K)) | (refine bothG_call (f := 24) (args := ?_) (fun w' => ?_) (fun w' _ => ?_) ?_; rotate_left; (· go_simp; rfl); (· exact ts_a HL.out.pxv _); (intro u x hu; obtain rfl := hu.a rfl; clear hu; refine hK _ _ ?_; clear hK hA K)) | ((refine bothG_float hA (x := ?_) (y := ?_) (X := ?_) (Y := ?_) rfl ?_ ?_ ?_ ?_ ?_ ?_; rotate_left 4; (· rfl); (· rfl); (· rfl); (· first | assumption | exact Is.refl _); (· first | assumption | exact Is.refl _); intro v hv hl; refine hK _ _ ?_; clear hK hA K); first | (have e9 := hv.eq Y3.out; subst e9; clear hv) | (have e9 := hv.eq Y4.out; subst e9; clear hv) | (have e9 := hv.eq Y5.out; subst e9; clear hv) | (have e9 := hv.eq Y6.out; subst e9; clear hv)))
              refine wpG_nil ?_
              intro w7 hb7 hF
              clear hF hmx' Y3 Y4 Y5 Y6
              have A := AtS.keep (B := w5.heap.size) (a := a') (b := b') (c := c') (d := d') (f := f') ⟨n0, n1, n2, n3, n4⟩ z2 hb7
              have hB := hB'.trans (hb7.mono hB'.size)
              clear x0 x1 x2 x3 x4 n0 n1 n2 n3 n4 z1 hB' hb7
              obtain ⟨n0, n1, n2, n3, n4⟩ := A
              go_wp2_with (((with_reducible refine wpList_float (x := ?_) (y := ?_) (X := ?_) (Y := ?_) rfl rfl ?_ ?_ ?_ ?_ ?_ ?_); (· rfl); (rotate_left 4); (· rfl); (· rfl); (· first | assumption | exact Is.refl _); (· first | assumption | exact Is.refl _); intro v n hv hl); first | (have e1 : (FloatKind.f64.format.order _ _ == some Ordering.lt || FloatKind.f64.format.order _ _ == some Ordering.eq) = true := (cle_is ‹Is _ (fop BinOp.mul d' d')› hv).trans Y.out) | skip)
              refine (wakes_walk _).mono ?_; rintro e wk ⟨rfl, bb⟩
              replace hB := (below_drewN hB _).trans (bb.mono hB.size)
              go_wp2_with fail
              go_ret
              exact ⟨rfl, hB⟩
        · have j' : (FloatKind.f64.format.order q 0 == some Ordering.eq) = true := j
          have hq0 : ceq q 0 = true ∨ In q 4156822456062967808 5057542381537067008 := .inl j
          clear j
          have Q := Lib.hid hq0
          clear hq0
          have I1 := Lib.hid i1
          have I2 := Lib.hid i2
          have I3 := Lib.hid i3
          clear i1 i2 i3
          cases htest : cle (fmul d d) (fmul KW (fmul c f))
          · have HT := Lib.hid htest
            clear htest
            go_wp2_with (((with_reducible refine wpList_floatg (x := ?_) (y := ?_) (X := ?_) (Y := ?_) rfl rfl ?_ ?_ ?_ ?_ ?_ ?_ ?_); (· rfl); (· rfl); (rotate_left 4); (· rfl); (· rfl); (· first | assumption | exact Is.refl _); (· first | assumption | exact Is.refl _); intro v n hv hl); first | (have e1 : (FloatKind.f64.format.order _ _ == some Ordering.lt || FloatKind.f64.format.order _ _ == some Ordering.eq) = false := (cle_is ‹Is _ (fop BinOp.mul d d)› hv).trans HT.out) | skip)
            refine (wakes_walk _).mono ?_; rintro e wk ⟨rfl, bb⟩
            replace hB := (below_drewN hB _).trans (bb.mono hB.size)
            go_wp2_with fail
            go_ret
            exact ⟨rfl, hB⟩
          · have HT := Lib.hid htest
            clear htest
            go_wp2_with (((with_reducible refine wpList_floatg (x := ?_) (y := ?_) (X := ?_) (Y := ?_) rfl rfl ?_ ?_ ?_ ?_ ?_ ?_ ?_); (· rfl); (· rfl); (rotate_left 4); (· rfl); (· rfl); (· first | assumption | exact Is.refl _); (· first | assumption | exact Is.refl _); intro v n hv hl); first | (have e1 : (FloatKind.f64.format.order _ _ == some Ordering.lt || FloatKind.f64.format.order _ _ == some Ordering.eq) = true := (cle_is ‹Is _ (fop BinOp.mul d d)› hv).trans HT.out) | skip)
            refine (ahead_walk _ _ _ _ _ _ _ _ HL.out).mono ?_; rintro e w5 ⟨a', b', c', d', f', rfl, ⟨hs, hl'⟩, bb⟩
            have A := AtS.keep (W := _) (B := w.heap.size) (a := a) (b := b) (c := c) (d := d) (f := f) (show AtS (w3.drewN _) w.heap.size a b c d f from ⟨p0, p1, p2, p3, p4⟩) hz bb
            clear p0 p1 p2 p3 p4
            obtain ⟨p0, p1, p2, p3, p4⟩ := A
            replace hB := (below_drewN hB _).trans (bb.mono hB.size)
            replace hz : w.heap.size < w5.heap.size := Nat.lt_of_lt_of_le hz bb.size
            clear bb e1 hv
            obtain ⟨m, em, ⟨y1, y2, y3, y4, y5, y6⟩, y7, y8⟩ := sure_word (s := ⟨a, b, c, d, f⟩) (t := t) (q := q) (inb_in I1.out) (inb_in I2.out) (inb_in I3.out) Q.out HT.out
            have g1 : c' = (aheadF ⟨a, b, c, d, f⟩ t q).pxx := hs.pxx.eq y1.not_nan
            have g2 : f' = (aheadF ⟨a, b, c, d, f⟩ t q).pvv := hs.pvv.eq y2.not_nan
            have g3 : d' = (aheadF ⟨a, b, c, d, f⟩ t q).pxv := hs.pxv.eq y7.not_nan
            rw [← g1, ← g2] at em
            rw [← g1] at y1
            rw [← g2] at y2
            rw [← g1, ← g2, ← g3] at y8
            clear g1 g2 g3 hs y7 HT Q
            have hmx := fun ts ty w => run_max6 (P := Try.prog) y1.not_nan y2.not_nan (in100 (inb_in I1.out)).1.not_nan y4.not_nan y5.not_nan y6.not_nan ts ty w
            simp only at hmx em
            rw [← em] at hmx
            clear em
            have Y := Lib.hid y8
            have Y3 := Lib.hid y3.not_nan
            have Y4 := Lib.hid y4.not_nan
            have Y5 := Lib.hid y5.not_nan
            have Y6 := Lib.hid y6.not_nan
            clear y1 y2 y3 y4 y5 y6 y8 I1 I2 I3
            go_wp2_with fail
            have hmx' : ∀ (ts : Array TypeId) (ty : TypeId) (w : World), (Builtin.max_ ts ty #[.float .f64 c', .float .f64 f', .float .f64 c, .float .f64 (fop BinOp.mul (fop BinOp.mul t t) f), .float .f64 (fop BinOp.mul t f), .float .f64 (fop BinOp.mul t (fabs d))]).run Try.prog w = .ok (.float .f64 m) w := hmx
            clear hmx
            obtain ⟨⟨x0, x1, x2, x3, x4⟩, ⟨n0, n1, n2, n3, n4⟩, z1, z2, hB'⟩ := new_at (a' := a') (b' := b') (c' := c') (d' := d') (f' := f') ⟨p0, p1, p2, p3, p4⟩ hz hB
            clear p0 p1 p2 p3 p4 hB hz
            generalize hW6 : w5.alloc (Obj.cells #[Value.float FloatKind.f64 a', Value.float FloatKind.f64 b', Value.float FloatKind.f64 c', Value.float FloatKind.f64 d', Value.float FloatKind.f64 f'] 24) = W6 at *
            clear hW6
            refine wp_region_G (TS d) (by kernel_rfl) (by kernel_rfl) ?_
            repeat' (refine wpG_step' (fun K hA hK => ?_); go_simp; first | (refine bothG_value hA (v := ?_) (fun w' hw' => ?_) ?_; rotate_left; (· go_simp; rfl); (refine hK _ _ ?_; clear hK hA K)) | (refine bothG_call (f := 24) (args := ?_) (fun w' => ?_) (fun w' _ => ?_) ?_; rotate_left; (· go_simp; rfl); (· exact ts_a HL.out.pxv _); (intro u x hu; obtain rfl := hu.a rfl; clear hu; refine hK _ _ ?_; clear hK hA K)) | ((refine bothG_float hA (x := ?_) (y := ?_) (X := ?_) (Y := ?_) rfl ?_ ?_ ?_ ?_ ?_ ?_; rotate_left 4; (· rfl); (· rfl); (· rfl); (· first | assumption | exact Is.refl _); (· first | assumption | exact Is.refl _); intro v hv hl; refine hK _ _ ?_; clear hK hA K); first | (have e9 := hv.eq Y3.out; subst e9; clear hv) | (have e9 := hv.eq Y4.out; subst e9; clear hv) | (have e9 := hv.eq Y5.out; subst e9; clear hv) | (have e9 := hv.eq Y6.out; subst e9; clear hv)))
            refine wpG_nil ?_
            intro w7 hb7 hF
            clear hF hmx' Y3 Y4 Y5 Y6
            have A := AtS.keep (B := w5.heap.size) (a := a') (b := b') (c := c') (d := d') (f := f') ⟨n0, n1, n2, n3, n4⟩ z2 hb7
            have hB := hB'.trans (hb7.mono hB'.size)
            clear x0 x1 x2 x3 x4 n0 n1 n2 n3 n4 z1 hB' hb7
            obtain ⟨n0, n1, n2, n3, n4⟩ := A
            go_wp2_with (((with_reducible refine wpList_float (x := ?_) (y := ?_) (X := ?_) (Y := ?_) rfl rfl ?_ ?_ ?_ ?_ ?_ ?_); (· rfl); (rotate_left 4); (· rfl); (· rfl); (· first | assumption | exact Is.refl _); (· first | assumption | exact Is.refl _); intro v n hv hl); first | (have e1 : (FloatKind.f64.format.order _ _ == some Ordering.lt || FloatKind.f64.format.order _ _ == some Ordering.eq) = true := (cle_is ‹Is _ (fop BinOp.mul d' d')› hv).trans Y.out) | skip)
            refine (wakes_walk _).mono ?_; rintro e wk ⟨rfl, bb⟩
            replace hB := (below_drewN hB _).trans (bb.mono hB.size)
            go_wp2_with fail
            go_ret
            exact ⟨rfl, hB⟩
theorem sure_args (W : World) (base : Nat) (args : Array Value) (hsz : args.size = Try.f9.params.size) (hval : ∀ (j : Nat) t v, Try.f9.params[j]? = some t → args[j]? = some v → Value.okWide Try.prog W .any base t v) :
    Calls Try.prog 9 args W (fun e w' => e = .returned (.bool true) ∧ Below W.heap.size W w') := by
  rw [Try.params9] at hval hsz
  obtain ⟨l⟩ := args
  match l, hsz with
  | [v0, v1, v2], _ =>
    obtain ⟨l0, e0, rfl, hb0⟩ := ok_floats (P := Try.prog) (t := 24) (tf := 22) 5 Try.underlying22 (by kernel_rfl) (by kernel_rfl) (by kernel_rfl) (hval 0 24 v0 rfl rfl)
    obtain ⟨x1, rfl, hx1⟩ := ok_float (t := 22) Try.underlying22 (hval 1 22 v1 rfl rfl)
    obtain ⟨x2, rfl, hx2⟩ := ok_float (t := 22) Try.underlying22 (hval 2 22 v2 rfl rfl)
    match l0, e0, hb0 with
    | [a, b, c, d, f], _, hb0 =>
      exact sure_law a b c d f x1 x2 W ⟨hb0 a (by simp), hb0 b (by simp), hb0 c (by simp), hb0 d (by simp), hb0 f (by simp)⟩

set_option maxRecDepth 100000 in
theorem sure_lifted (os : Os) (started : os.Started) (H : Type) (enc : TypeId × Value → H) :
    ReturnsInHanded {} Try.checked os 9 .any (Rows.stateSureSpec.pre6 enc Try.prog Try.f9 Rows.stateSureRow.domain false) (Rows.stateSureSpec.post enc Try.prog Try.f9 false true false false) :=
  law_lifted (C := Try.checked) Try.own started (by kernel_rfl) Try.func9
    (ChangeSpec.witness6 (enc := enc) (C := Try.checked) false ⟨#[], #[.agg #[.float .f64 0, .float .f64 0, .float .f64 0, .float .f64 0, .float .f64 0], .float .f64 0, .float .f64 0], []⟩ 8 (by kernel_rfl) (by kernel_rfl) (by kernel_rfl) (by kernel_rfl))
    Try.laidOut (fun t ht => by have ht2 : t ∈ Try.f9.params.toList := ht; rw [Try.params9] at ht2; simp only [List.mem_cons, List.not_mem_nil, or_false, or_self] at ht2; rcases ht2 with rfl | rfl <;> exact ⟨by kernel_rfl, of_decide_eq_true (by kernel_rfl)⟩)
    rfl Try.underlying4 rfl (fun ds hd => by have hd2 : ds.length = Try.f9.params.size := hd; rw [Try.params9] at hd2; match ds, hd2 with | [d0, d1, d2], _ => exact ⟨rfl, rfl, rfl⟩) sure_args

theorem sure_holds : Rows.StateSureSaid :=
  OpenClaim.holds_of_wide 9 Try.f9 rfl rfl rfl rfl rfl rfl rfl ⟨rfl, rfl, rfl, rfl, rfl⟩ rfl rfl rfl rfl rfl (by kernel_rfl) Try.func9 (by kernel_rfl)
    (of_decide_eq_true (by kernel_rfl)) (by unfold Func.isWrapper; first | (rw [if_pos (by decide +kernel)]; kernel_rfl) | (rw [if_neg (by decide +kernel)]; exact ⟨rfl, rfl⟩))
    (fun os started H enc _ => sure_lifted os started H enc)
#print axioms sure_holds
end Go.Proofs.Ytjpddkojclgkmaa
