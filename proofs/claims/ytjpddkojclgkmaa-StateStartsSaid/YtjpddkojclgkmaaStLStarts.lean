/-
  What is proved: for all floats x, noise and sway the law StateStarts returns true (package state starts as the document says, number by number), and its arguments read as before. No conditions.
-/
import Derived.Test.YtjpddkojclgkmaaStK
import Derived.Test.YtjpddkojclgkmaaFlL
import Derived.Test.YtjpddkojclgkmaaRows
import Derived.ProofKit
import Derived.OpenShut
import Derived.WalkKit
import Derived.WalkLawsBesides
import Derived.WalkSpells
import Derived.BigQuiet
import Derived.Lib.Hide
set_option autoImplicit false
namespace Go.Proofs.Ytjpddkojclgkmaa
open Go.RowKit Go.ChangeShapes Go.WideShapes Go.ChangeAt Lk

theorem Try.own : ownKnob Try.prog.godebug = none := by kernel_rfl
theorem Try.laidOut : laidOutB Try.prog = true := by kernel_rfl

theorem starts_law (x n q : Nat) (w : World) (hx : x < 2 ^ 64) (hn : n < 2 ^ 64) (hq : q < 2 ^ 64) : Calls Try.prog 4 #[.float .f64 x, .float .f64 n, .float .f64 q] w (fun e w' => e = .returned (.bool true) ∧ Below w.heap.size w w') := by
  go_enter Try.func4, Try.ntmps4
  go_wp2_with fail
  refine (start_walk _ _ _ _ hx hn hq).mono ?_; rintro e w1 ⟨a, b, c, d, f, rfl, ⟨h1, _⟩, hb1⟩
  have H1 := Lib.hid h1
  clear h1
  go_wp2_with fail
  refine (rstart_walk _ _ _ _ hx hn hq).mono ?_; rintro e w2 ⟨a', b', c', d', f', rfl, ⟨h2, _⟩, hb2⟩
  have HS := Lib.hid (sameS_is (H1.out.trans h2.symm))
  clear h2
  go_wp2_with fail
  refine (same_walk _ _ _ _ _ _ _ _ _ _ _).mono ?_; rw [HS.out]; rintro e w3 ⟨rfl, hb3⟩
  go_wp2_with fail
  refine (wakes_walk _).mono ?_; rintro e w4 ⟨rfl, hb4⟩
  go_wp2_with fail
  go_ret
  have z1 := hb1.size
  have z2 := hb2.size
  have z3 := hb3.size
  exact ⟨rfl, ((hb1.trans (hb2.mono z1)).trans (hb3.mono (by omega))).trans (hb4.mono (by omega))⟩

set_option maxRecDepth 100000 in
theorem starts_lifted (os : Os) (started : os.Started) (H : Type) (enc : TypeId × Value → H) :
    ReturnsInHanded {} Try.checked os 4 .any (Rows.stateStartsSpec.pre6 enc Try.prog Try.f4 Rows.stateStartsRow.domain false) (Rows.stateStartsSpec.post enc Try.prog Try.f4 false true false false) := by
  refine returnsInHanded_of_change (C := Try.checked) Try.own started (by kernel_rfl) Try.func4
    (ChangeSpec.witness6 (enc := enc) (C := Try.checked) false ⟨#[], #[.float .f64 0, .float .f64 0, .float .f64 0], []⟩ 8 (by kernel_rfl) (by kernel_rfl) (by kernel_rfl) (by kernel_rfl)) ?_
  intro W base args ds gs before hval0 hW hcnd _
  have hval : ∀ (j : Nat) t v, Try.f4.params[j]? = some t → args[j]? = some v → Value.okWide Try.prog W .any base t v := hval0
  have hW' := hW
  obtain ⟨p, q, hA0, hV, rfl, hfz, hnd⟩ := hW
  have hA : DataW.TrodAll enc Try.prog W 0 (fun _ => true) true Try.f4.params.toList args.toList ds p := hA0
  rw [Try.params4] at hA hval
  obtain ⟨v0, vs0, d0, ds0, p0, q0, hargs, rfl, rfl, h0, r0⟩ := trodAll_cons hA
  obtain ⟨v1, vs1, d1, ds1, p1, q1, rfl, rfl, rfl, h1, r1⟩ := trodAll_cons r0
  obtain ⟨v2, vs2, d2, ds2, p2, q2, rfl, rfl, rfl, h2, r2⟩ := trodAll_cons r1
  obtain ⟨rfl, rfl, rfl⟩ := trodAll_nil r2
  obtain rfl : args = #[v0, v1, v2] := by cases args; simp_all
  obtain ⟨a0, rfl, rfl, rfl, w0⟩ := open_float Try.underlying22 (hval 0 22 v0 rfl rfl) h0
  obtain ⟨a1, rfl, rfl, rfl, w1⟩ := open_float Try.underlying22 (hval 1 22 v1 rfl rfl) h1
  obtain ⟨a2, rfl, rfl, rfl, w2⟩ := open_float Try.underlying22 (hval 2 22 v2 rfl rfl) h2
  refine (starts_law a0 a1 a2 W (by simpa [Lit.wf] using w0) (by simpa [Lit.wf] using w1) (by simpa [Lit.wf] using w2)).mono fun e W' ⟨he, hg⟩ => ?_
  exact ⟨_, he, law_post Try.laidOut (fun t ht => by have ht2 : t ∈ Try.f4.params.toList := ht; rw [Try.params4] at ht2; simp only [List.mem_cons, List.not_mem_nil, or_false, or_self] at ht2; subst ht2; exact ⟨by kernel_rfl, of_decide_eq_true (by kernel_rfl)⟩) rfl Try.underlying4 rfl ⟨rfl, rfl, rfl⟩ hW' hg⟩

theorem starts_holds : Rows.StateStartsSaid :=
  OpenClaim.holds_of_wide 4 Try.f4 rfl rfl rfl rfl rfl rfl rfl ⟨rfl, rfl, rfl, rfl, rfl⟩ rfl rfl rfl rfl rfl (by kernel_rfl) Try.func4 (by kernel_rfl)
    (of_decide_eq_true (by kernel_rfl)) (by unfold Func.isWrapper; first | (rw [if_pos (by decide +kernel)]; kernel_rfl) | (rw [if_neg (by decide +kernel)]; exact ⟨rfl, rfl⟩))
    (fun os started H enc _ => starts_lifted os started H enc)
#print axioms starts_holds
end Go.Proofs.Ytjpddkojclgkmaa
