/-
  What is proved: the law SmoothLines returns true, whatever its arguments. Conditions: those of the statement alone.
-/
import Derived.Test.YtoobpiednigcgaaSmD
import Derived.Test.YtoobpiednigcgaaFlL
import Derived.Test.YtoobpiednigcgaaRows
import Derived.ProofKit
import Derived.OpenShut
set_option autoImplicit false
set_option linter.unusedVariables false
namespace Go.Proofs.Ytoobpiednigcgaa
open Go.RowKit Go.ChangeShapes Go.WideShapes Go.ChangeAt Lk
theorem Try.own : ownKnob Try.prog.godebug = none := by kernel_rfl
theorem Try.laidOut : laidOutB Try.prog = true := by kernel_rfl
theorem turns_in (f : FuncId) (k : Nat) (l : List Nat) (R : Int) (args : Array Value) (w : World) (t x : List Nat) (m : Nat) (hk : k = (turnsR t x m).length) (hl : l = turnsR t x m) (hR : R = turnsE t x m) (h : Calls Try.prog f args w (TurnsP t x m w)) :
    Calls Try.prog f args w (fun e w' => ∃ b q, e = .returned (.tuple #[.slice b k q, .int .i64 R]) ∧ Is1 w' b k l ∧ Below w.heap.size w w') := by
  refine h.mono ?_
  rintro e w' ⟨v, rfl, ow, hb⟩
  obtain ⟨b, q, rfl, hi⟩ := own_is ow
  subst hk hl hR
  exact ⟨b, q, rfl, hi, hb⟩
set_option maxRecDepth 100000 in
set_option maxHeartbeats 8000000 in
theorem lines_law (a : Option Addr) (n c : Nat) (t : List Nat) (a' : Option Addr) (m c' : Nat) (x : List Nat) (b : Nat) (w : World) (s0 : Fs w a n c t) (s1 : Fs w a' m c' x) (hb : b < 2 ^ 64) :
    Calls Try.prog 4 #[.slice a n c, .slice a' m c', .float .f64 b] w (fun e w' => e = .returned (.bool true) ∧ Below w.heap.size w w') := by
  by_cases g1 : n ≤ 1048576
  case neg =>
    have g2 : (1048576 : Int) < n := by omega
    clear s0 s1
    go_enter Try.func4, Try.ntmps4
    go_wp2_with fail
    refine (works_walk _).mono ?_
    rintro e w1 ⟨rfl, b1⟩
    go_wp2_with fail
    go_ret
    exact ⟨rfl, b1⟩
  have g2 : (n : Int) ≤ 1048576 := by omega
  by_cases g3 : m ≤ 1048576
  case neg =>
    have g4 : (1048576 : Int) < m := by omega
    clear s0 s1
    go_enter Try.func4, Try.ntmps4
    go_wp2_with fail
    refine (works_walk _).mono ?_
    rintro e w1 ⟨rfl, b1⟩
    go_wp2_with fail
    go_ret
    exact ⟨rfl, b1⟩
  have g4 : (m : Int) ≤ 1048576 := by omega
  have L1 := fun (w : World) (p q : Option Addr) (d d' : Nat) (h : Fs w p n d t) (h' : Fs w q m d' x) => line_walk p q n m d d' t x w h h'
  have L2 := fun (w : World) (p q : Option Addr) (d d' : Nat) (h : Fs w p n d t) (h' : Fs w q m d' x) => rline_walk p q n m d d' t x w h h'
  generalize lineR t x = r at L1 L2
  obtain ⟨A, S, E⟩ := r
  simp only at L1 L2
  have SA := sameF_is (Is.refl A)
  have SS := sameF_is (Is.refl S)
  obtain ⟨k, hk⟩ : ∃ k, k = (turnsR t x b).length := ⟨_, rfl⟩
  obtain ⟨l, hl⟩ : ∃ l, l = turnsR t x b := ⟨_, rfl⟩
  obtain ⟨R, hR⟩ : ∃ R, R = turnsE t x b := ⟨_, rfl⟩
  have T1 := fun (w : World) (p q : Option Addr) (d d' : Nat) (h : Fs w p n d t) (h' : Fs w q m d' x) => turns_in 18 k l R _ w t x b hk hl hR (turns_walk p q n m d d' t x b w h h')
  have T2 := fun (w : World) (p q : Option Addr) (d d' : Nat) (h : Fs w p n d t) (h' : Fs w q m d' x) => turns_in 19 k l R _ w t x b hk hl hR (rturns_walk p q n m d d' t x b w h h')
  have T1 := Lib.hid T1
  have T2 := Lib.hid T2
  have L1 := Lib.hid L1
  have L2 := Lib.hid L2
  have S0 := Lib.hid s0
  have S1 := Lib.hid s1
  clear s0 s1 hk hl hR hb
  go_enter Try.func4, Try.ntmps4
  go_wp2_with fail
  refine (own_walk _ _ _ _ _ S0.out g1).mono ?_
  rintro e w1 ⟨u, cu, rfl, f1, b1⟩
  have B1 := Lib.hid b1
  have U1 := Lib.hid f1
  clear f1 b1
  go_wp2_with fail
  refine (own_walk _ _ _ _ _ (S1.out.keep B1.out) g3).mono ?_
  rintro e w2 ⟨y, cy, rfl, f2, b2⟩
  have U2 := Lib.hid (U1.out.keep b2)
  have Y2 := Lib.hid f2
  have B2 := Lib.hid (B1.out.trans (b2.mono B1.out.size))
  clear f2 b2 U1 B1
  go_wp2_with fail
  refine (L1.out _ _ _ _ _ U2.out.fs Y2.out.fs).mono ?_
  rintro e w3 ⟨rfl, b3⟩
  have U3 := Lib.hid (U2.out.keep b3)
  have Y3 := Lib.hid (Y2.out.keep b3)
  have B3 := Lib.hid (B2.out.trans (b3.mono B2.out.size))
  clear b3 U2 Y2 B2
  go_wp2_with fail
  refine (L2.out _ _ _ _ _ (S0.out.keep B3.out) (S1.out.keep B3.out)).mono ?_
  rintro e w4 ⟨rfl, b4⟩
  have U4 := Lib.hid (U3.out.keep b4)
  have Y4 := Lib.hid (Y3.out.keep b4)
  have B4 := Lib.hid (B3.out.trans (b4.mono B3.out.size))
  clear b4 U3 Y3 B3
  have A1 := samefloat_walk A A w4
  have A2 := samefloat_walk S S w4
  rw [SA] at A1
  rw [SS] at A2
  go_wp2_with fail
  refine A1.mono ?_; rintro e w' ⟨rfl, rfl⟩
  go_wp2_with fail
  refine A2.mono ?_; rintro e w' ⟨rfl, rfl⟩
  clear A1 A2
  go_wp2_with fail
  refine (T1.out _ _ _ _ _ U4.out.fs Y4.out.fs).mono ?_
  rintro e w5 ⟨i1, q1, rfl, I1, b5⟩
  have U5 := Lib.hid (U4.out.keep b5)
  have Y5 := Lib.hid (Y4.out.keep b5)
  have J5 := Lib.hid I1
  have B5 := Lib.hid (B4.out.trans (b5.mono B4.out.size))
  clear b5 U4 Y4 B4 I1
  go_wp2_with fail
  refine (T2.out _ _ _ _ _ (S0.out.keep B5.out) (S1.out.keep B5.out)).mono ?_
  rintro e w6 ⟨i2, q2, rfl, I2, b6⟩
  have U6 := Lib.hid (U5.out.keep b6)
  have Y6 := Lib.hid (Y5.out.keep b6)
  have J6 := Lib.hid (J5.out.keep b6)
  have K6 := Lib.hid I2
  have B6 := Lib.hid (B5.out.trans (b6.mono B5.out.size))
  clear b6 U5 Y5 B5 J5 I2
  go_wp2_with fail
  refine (ints_same _ _ _ _ _ _ _ J6.out K6.out).mono ?_
  rintro e w7 ⟨rfl, b7⟩
  have U7 := Lib.hid (U6.out.keep b7)
  have Y7 := Lib.hid (Y6.out.keep b7)
  have B7 := Lib.hid (B6.out.trans (b7.mono B6.out.size))
  clear b7 U6 Y6 B6 J6 K6
  go_wp2_with fail
  refine (kept_walk _ _ _ _ _ _ _ _ U7.out (S0.out.keep B7.out)).mono ?_
  rintro e w8 ⟨rfl, b8⟩
  have Y8 := Lib.hid (Y7.out.keep b8)
  have B8 := Lib.hid (B7.out.trans (b8.mono B7.out.size))
  clear b8 U7 Y7 B7
  go_wp2_with fail
  refine (kept_walk _ _ _ _ _ _ _ _ Y8.out (S1.out.keep B8.out)).mono ?_
  rintro e w9 ⟨rfl, b9⟩
  have B9 := Lib.hid (B8.out.trans (b9.mono B8.out.size))
  clear b9 Y8 B8
  go_wp2_with fail
  refine (works_walk _).mono ?_
  rintro e w10 ⟨rfl, b10⟩
  go_wp2_with fail
  go_ret
  exact ⟨rfl, B9.out.trans (b10.mono B9.out.size)⟩
theorem lines_args (W : World) (base : Nat) (args : Array Value) (hsz : args.size = Try.f4.params.size) (hval : ∀ (j : Nat) t v, Try.f4.params[j]? = some t → args[j]? = some v → Value.okWide Try.prog W .any base t v) (hrd : ∀ (j : Nat) t v, Try.f4.params[j]? = some t → args[j]? = some v → Rd Try.prog W t v.cells.toList) :
    Calls Try.prog 4 args W (fun e w' => e = .returned (.bool true) ∧ Below W.heap.size W w') := by
  rw [Try.params4] at hval hsz hrd
  obtain ⟨l⟩ := args
  match l, hsz with
  | [v0, v1, v2], _ =>
    obtain ⟨a0, n0, c0, M0, rfl, s0⟩ := fs_arg (hval 0 23 v0 rfl rfl) (hrd 0 23 v0 rfl rfl)
    obtain ⟨a1, n1, c1, M1, rfl, s1⟩ := fs_arg (hval 1 23 v1 rfl rfl) (hrd 1 23 v1 rfl rfl)
    obtain ⟨x2, rfl, hx2⟩ := ok_float (t := 24) Try.underlying24 (hval 2 24 v2 rfl rfl)
    exact lines_law a0 n0 c0 M0 a1 n1 c1 M1 x2 W s0 s1 hx2

set_option maxRecDepth 100000 in
theorem lines_lifted (os : Os) (started : os.Started) (H : Type) (enc : TypeId × Value → H) :
    ReturnsInHanded {} Try.checked os 4 .any (Rows.smoothLinesSpec.pre6 enc Try.prog Try.f4 Rows.smoothLinesRow.domain false) (Rows.smoothLinesSpec.post enc Try.prog Try.f4 false true false false) :=
  law_lifted_s (C := Try.checked) Try.own started (by kernel_rfl) Try.func4
    (ChangeSpec.witness6 (enc := enc) (C := Try.checked) false ⟨#[], #[.slice none 0 0, .slice none 0 0, .float .f64 0], []⟩ 8 (by kernel_rfl) (by kernel_rfl) (by kernel_rfl) (by kernel_rfl))
    Try.laidOut (fun t ht => by have ht2 : t ∈ Try.f4.params.toList := ht; rw [Try.params4] at ht2; simp only [List.mem_cons, List.not_mem_nil, or_false] at ht2; rcases ht2 with rfl | rfl | rfl <;> exact ⟨by kernel_rfl, of_decide_eq_true (by kernel_rfl)⟩)
    rfl Try.underlying4 rfl (fun ds hd => by have hd2 : ds.length = Try.f4.params.size := hd; rw [Try.params4] at hd2; match ds, hd2 with | [d0, d1, d2], _ => exact ⟨rfl, rfl, rfl⟩) lines_args

theorem lines_holds : Rows.SmoothLinesSaid :=
  OpenClaim.holds_of_wide 4 Try.f4 rfl rfl rfl rfl rfl rfl rfl ⟨rfl, rfl, rfl, rfl, rfl⟩ rfl rfl rfl rfl rfl (by kernel_rfl) Try.func4 (by kernel_rfl)
    (of_decide_eq_true (by kernel_rfl)) (by unfold Func.isWrapper; first | (rw [if_pos (by decide +kernel)]; kernel_rfl) | (rw [if_neg (by decide +kernel)]; exact ⟨rfl, rfl⟩))
    (fun os started H enc _ => lines_lifted os started H enc)
#print axioms lines_holds
end Go.Proofs.Ytoobpiednigcgaa
