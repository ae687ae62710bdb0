/-
  What is proved: for every remainders and moduli the law FoldJoins returns true, and its arguments read as before. No conditions.
-/
import Derived.Test.YtepoionjcjgnjaaFoRj
import Derived.Test.YtepoionjcjgnjaaFlL
import Derived.Test.YtepoionjcjgnjaaFlS
import Derived.Test.YtepoionjcjgnjaaRows
import Derived.ProofKit
import Derived.OpenShut
set_option autoImplicit false
set_option linter.unusedVariables false
namespace Go.Proofs.Ytepoionjcjgnjaa
open Go.RowKit Go.ChangeShapes Go.WideShapes Go.ChangeAt Lk Fo
theorem Try.own : ownKnob Try.prog.godebug = none := by kernel_rfl
theorem Try.laidOut : laidOutB Try.prog = true := by kernel_rfl
set_option maxRecDepth 100000 in
set_option maxHeartbeats 16000000 in
theorem joins_law (aR : Option Addr) (nR cR : Nat) (R : List Int) (aM : Option Addr) (nM cM : Nat) (M : List Int) (w : World) (sR : Sl w aR nR cR R) (sM : Sl w aM nM cM M) :
    Calls Try.prog 4 #[.slice aR nR cR, .slice aM nM cM] w (fun e w' => e = .returned (.bool true) ∧ Below w.heap.size w w') := by
  by_cases g1 : (1048576 : Int) < (nR : Int)
  · clear sR sM
    go_enter Try.func4, Try.ntmps4
    go_wp2_with fail
    refine (wakes_walk _).mono ?_; rintro e w2 ⟨rfl, b2⟩
    go_wp2_with fail
    go_ret
    exact ⟨rfl, b2⟩
  · by_cases g2 : (1048576 : Int) < (nM : Int)
    · clear sR sM
      go_enter Try.func4, Try.ntmps4
      go_wp2_with fail
      refine (wakes_walk _).mono ?_; rintro e w2 ⟨rfl, b2⟩
      go_wp2_with fail
      go_ret
      exact ⟨rfl, b2⟩
    · have gR : nR ≤ 1048576 := by omega
      have gM : nM ≤ 1048576 := by omega
      have S1 := Lib.hid (And.intro sR sM)
      clear sR sM
      go_enter Try.func4, Try.ntmps4
      go_wp2_with fail
      refine (lent_walk aR nR cR R _ S1.out.1 gR).mono ?_; rintro e w2 ⟨gp, cp, rfl, tp, b2⟩
      have S2 := Lib.hid (And.intro (S1.out.1.keep b2) (S1.out.2.keep b2))
      have HB2 := Lib.hid b2
      have TP := Lib.hid tp
      clear b2 tp S1
      go_wp2_with fail
      refine (lent_walk aM nM cM M w2 S2.out.2 gM).mono ?_; rintro e w3 ⟨gq, cq, rfl, tq, b3⟩
      have S3 := Lib.hid (And.intro (S2.out.1.keep b3) (S2.out.2.keep b3))
      have HB3 := Lib.hid (HB2.out.trans (b3.mono HB2.out.size))
      have TP3 := Lib.hid (TP.out.keep b3)
      have TQ3 := Lib.hid tq
      clear b3 tq S2 HB2 TP
      have C1 := join_walk 1099511627776 divOk_all (by omega) (some ⟨gp, 0, none⟩) (some ⟨gq, 0, none⟩) nR nM cp cq R M w3 TP3.out.sl TQ3.out.sl (fun m hm => by omega)
      have C2 := fun w s1 s2 => rjoin_walk aR aM nR nM cR cM R M w s1 s2
      generalize joinW R M = T at *
      obtain ⟨tx, td, te⟩ := T
      go_wp2_with fail
      refine C1.mono ?_; rintro e w4 ⟨rfl, b4⟩
      have S4 := Lib.hid (And.intro (S3.out.1.keep b4) (S3.out.2.keep b4))
      have HB4 := Lib.hid (HB3.out.trans (b4.mono HB3.out.size))
      have TP4 := Lib.hid (TP3.out.keep b4)
      have TQ4 := Lib.hid (TQ3.out.keep b4)
      clear b4 S3 HB3 TP3 TQ3 C1
      go_wp2_with fail
      refine (C2 w4 S4.out.1 S4.out.2).mono ?_; rintro e w5 ⟨rfl, b5⟩
      have S5 := Lib.hid (And.intro (S4.out.1.keep b5) (S4.out.2.keep b5))
      have HB5 := Lib.hid (HB4.out.trans (b5.mono HB4.out.size))
      have TP5 := Lib.hid (TP4.out.keep b5)
      have TQ5 := Lib.hid (TQ4.out.keep b5)
      clear b5 S4 HB4 TP4 TQ4 C2
      go_wp2_with fail
      refine (kept_walk _ gp nR cp aR cR R w5 TP5.out S5.out.1).mono ?_; rintro e w6 ⟨rfl, b6⟩
      have S6 := Lib.hid (S5.out.2.keep b6)
      have HB6 := Lib.hid (HB5.out.trans (b6.mono HB5.out.size))
      have TQ6 := Lib.hid (TQ5.out.keep b6)
      clear b6 S5 HB5 TP5 TQ5
      go_wp2_with fail
      refine (kept_walk _ gq nM cq aM cM M w6 TQ6.out S6.out).mono ?_; rintro e w7 ⟨rfl, b7⟩
      have HB7 := Lib.hid (HB6.out.trans (b7.mono HB6.out.size))
      clear b7 S6 HB6 TQ6
      go_wp2_with fail
      refine (wakes_walk _).mono ?_; rintro e w8 ⟨rfl, b8⟩
      have HB8 := Lib.hid (HB7.out.trans (b8.mono HB7.out.size))
      clear b8
      go_wp2_with fail
      go_ret
      exact ⟨rfl, HB8.out⟩
theorem joins_args (W : World) (base : Nat) (args : Array Value) (hsz : args.size = Try.f4.params.size) (hval : ∀ (j : Nat) t v, Try.f4.params[j]? = some t → args[j]? = some v → Value.okWide Try.prog W .any base t v) (hrd : ∀ (j : Nat) t v, Try.f4.params[j]? = some t → args[j]? = some v → Rd Try.prog W t v.cells.toList) :
    Calls Try.prog 4 args W (fun e w' => e = .returned (.bool true) ∧ Below W.heap.size W w') := by
  rw [Try.params4] at hval hsz hrd
  obtain ⟨l⟩ := args
  match l, hsz with
  | [v0, v1], _ =>
    obtain ⟨a0, n0, c0, M0, rfl, s0⟩ := sl_arg (hval 0 27 v0 rfl rfl) (hrd 0 27 v0 rfl rfl)
    obtain ⟨a1, n1, c1, M1, rfl, s1⟩ := sl_arg (hval 1 27 v1 rfl rfl) (hrd 1 27 v1 rfl rfl)
    exact joins_law a0 n0 c0 M0 a1 n1 c1 M1 W s0 s1

set_option maxRecDepth 100000 in
theorem joins_lifted (os : Os) (started : os.Started) (H : Type) (enc : TypeId × Value → H) :
    ReturnsInHanded {} Try.checked os 4 .any (Rows.foldJoinsSpec.pre6 enc Try.prog Try.f4 Rows.foldJoinsRow.domain false) (Rows.foldJoinsSpec.post enc Try.prog Try.f4 false true false false) :=
  law_lifted_s (C := Try.checked) Try.own started (by kernel_rfl) Try.func4
    (ChangeSpec.witness6 (enc := enc) (C := Try.checked) false ⟨#[], #[.slice none 0 0, .slice none 0 0], []⟩ 8 (by kernel_rfl) (by kernel_rfl) (by kernel_rfl) (by kernel_rfl))
    Try.laidOut (fun t ht => by have ht2 : t ∈ Try.f4.params.toList := ht; rw [Try.params4] at ht2; simp only [List.mem_cons, List.not_mem_nil, or_false, or_self] at ht2; subst ht2; exact ⟨by kernel_rfl, of_decide_eq_true (by kernel_rfl)⟩)
    rfl Try.underlying4 rfl (fun ds hd => by have hd2 : ds.length = Try.f4.params.size := hd; rw [Try.params4] at hd2; match ds, hd2 with | [d0, d1], _ => exact ⟨rfl, rfl, rfl⟩) joins_args

theorem joins_holds : Rows.FoldJoinsSaid :=
  OpenClaim.holds_of_wide 4 Try.f4 rfl rfl rfl rfl rfl rfl rfl ⟨rfl, rfl, rfl, rfl, rfl⟩ rfl rfl rfl rfl rfl (by kernel_rfl) Try.func4 (by kernel_rfl)
    (of_decide_eq_true (by kernel_rfl)) (by unfold Func.isWrapper; first | (rw [if_pos (by decide +kernel)]; kernel_rfl) | (rw [if_neg (by decide +kernel)]; exact ⟨rfl, rfl⟩))
    (fun os started H enc _ => joins_lifted os started H enc)
#print axioms joins_holds
end Go.Proofs.Ytepoionjcjgnjaa
