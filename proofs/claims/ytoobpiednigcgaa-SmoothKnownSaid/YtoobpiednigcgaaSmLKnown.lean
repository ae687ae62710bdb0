/-
  What is proved: the law SmoothKnown, which takes no arguments, returns true. No conditions.
-/
import Derived.Test.YtoobpiednigcgaaSmY
import Derived.Test.YtoobpiednigcgaaFlL
import Derived.Test.YtoobpiednigcgaaRows
import Derived.ProofKit
import Derived.OpenShut
set_option autoImplicit false
set_option linter.unusedVariables false
namespace Go.Proofs.Ytoobpiednigcgaa
open Go.RowKit Go.ChangeShapes Go.WideShapes Go.ChangeAt Lk
theorem Try.own : ownKnob Try.prog.godebug = none := by kernel_rfl
theorem Try.laidOut : laidOutB Try.prog = true := by kernel_rfl
def z5 : St := ⟨0, 0, 0, 0, 0⟩
theorem k_line (a b : Nat) : True := trivial

theorem k1 : lineR [0, 4607182418800017408] [4616189618054758400, 4616189618054758400] = (4616189618054758400, 0, 0) := by decide +kernel
theorem k2 : lineR [4607182418800017408] [4607182418800017408] = (0, 0, 2) := by decide +kernel
theorem k3 : lineR [4607182418800017408, 4607182418800017408] [0, 4607182418800017408] = (0, 0, 6) := by decide +kernel
theorem k4 : turnsE [0, 4607182418800017408, 4611686018427387904, 4613937818241073152] [0, 4607182418800017408, 4611686018427387904, 0] 4613937818241073152 = 0 := by decide +kernel
theorem k4' : turnsR [0, 4607182418800017408, 4611686018427387904, 4613937818241073152] [0, 4607182418800017408, 4611686018427387904, 0] 4613937818241073152 = [] := by decide +kernel
theorem k5 : turnsE [0, 0, 4607182418800017408] [0, 0, 4607182418800017408] 0 = 2 := by decide +kernel
theorem k6 : turnsE [0, 4607182418800017408] [0, 4607182418800017408] 0 = 0 := by decide +kernel
theorem k6' : turnsR [0, 4607182418800017408] [0, 4607182418800017408] 0 = [] := by decide +kernel
theorem k7 : turnsE [0, 4607182418800017408] [0, 4607182418800017408] qn = 6 := by decide +kernel
theorem k8 : backE [] [] 4607182418800017408 = 0 := by decide +kernel
theorem k8' : backR [] [] 4607182418800017408 = [] := by unfold backR; rw [k8, if_pos rfl]; rfl
theorem k9 : backE [z5, z5] [] 4607182418800017408 = 5 := by decide +kernel
theorem two_lines (w : World) (l m : List Nat) (n k : Nat) (hn : n = l.length) (hk : k = m.length) (h1 : (l.all fun x => decide (x < 2 ^ 64)) = true) (h2 : (m.all fun x => decide (x < 2 ^ 64)) = true) (z1 : l.length ≤ 4194304) (z2 : m.length ≤ 4194304) :
    Fs ((w.alloc (.cells (fls l).toArray 24)).alloc (.cells (fls m).toArray 24)) (some ⟨w.heap.size, 0, none⟩) n n l ∧ Fs ((w.alloc (.cells (fls l).toArray 24)).alloc (.cells (fls m).toArray 24)) (some ⟨w.heap.size + 1, 0, none⟩) k k m :=
  ⟨fs_blk (by rw [al, if_neg (by simp), al, if_pos rfl]) rfl hn (lit_lt h1) z1, fs_blk (by rw [al, if_pos (by simp)]) rfl hk (lit_lt h2) z2⟩
theorem ss_two {w : World} {g : Nat} (h : w.heap[g]? = some (.cells #[.float .f64 0, .float .f64 0, .float .f64 0, .float .f64 0, .float .f64 0, .float .f64 0, .float .f64 0, .float .f64 0, .float .f64 0, .float .f64 0] 27 (0, 0))) : Ss w (some ⟨g, 0, none⟩) 2 2 [z5, z5] := by
  have hl : St.Lt z5 := ⟨by decide, by decide, by decide, by decide, by decide⟩
  refine ⟨rfl, Nat.le_refl _, by omega, (fun x hx => by
    simp only [List.mem_cons, List.not_mem_nil, or_false, or_self] at hx
    rw [hx]; exact hl), .inr ⟨g, 0, rfl, (Array.getElem?_eq_some_iff.1 h).1, fun j hj => ?_⟩, fun h => by cases h⟩
  match j, hj with
  | 0, _ => exact ⟨cell_of_heap h 0, cell_of_heap h 1, cell_of_heap h 2, cell_of_heap h 3, cell_of_heap h 4⟩
  | 1, _ => exact ⟨cell_of_heap h 5, cell_of_heap h 6, cell_of_heap h 7, cell_of_heap h 8, cell_of_heap h 9⟩
set_option maxRecDepth 100000 in
set_option maxHeartbeats 8000000 in
theorem known_law (w : World) : Calls Try.prog 7 #[] w (fun e w' => e = .returned (.bool true) ∧ Below w.heap.size w w') := by
  have q1 : (FloatKind.f64.format.order 4616189618054758400 4616189618054758400 == some Ordering.eq) = true := by decide +kernel
  have q2 : (FloatKind.f64.format.order 0 0 == some Ordering.eq) = true := by decide +kernel
  have hmk : ∀ w, (Instr.makeSlice 22 (.int .i64 2) (.int .i64 2)).run Try.prog w = .ok (.slice (some ⟨w.heap.size, 0, none⟩) 2 2) (w.alloc (.cells #[.float .f64 0, .float .f64 0, .float .f64 0, .float .f64 0, .float .f64 0, .float .f64 0, .float .f64 0, .float .f64 0, .float .f64 0, .float .f64 0] 27)) := fun _ => by kernel_rfl
  go_enter Try.func7, Try.ntmps7
  go_wp2_with fail
  refine (back_walk none none 0 0 0 0 [] [] 4607182418800017408 _ (ss_nil _) (fs_nil _) (by decide)).mono ?_
  rintro e w1 ⟨v1, rfl, rs, b1⟩
  rw [k8'] at rs
  rw [k8]
  obtain ⟨a1, p1, rfl⟩ : ∃ a p, v1 = .slice a 0 p := by
    rcases rs with ⟨rfl, _⟩ | ⟨g, co, h, _⟩
    · exact ⟨_, _, rfl⟩
    · exact ⟨_, _, h⟩
  have B1 := Lib.hid b1
  clear b1 rs
  go_wp2_with fail
  refine (back_walk (some ⟨w1.heap.size, 0, none⟩) none 2 0 2 0 [z5, z5] [] 4607182418800017408 _ (ss_two (Deep.blk_alloc_new w1 _)) (fs_nil _) (by decide)).mono ?_
  rintro e w2 ⟨v2, rfl, _, b2⟩
  rw [k9]
  have B2 := Lib.hid (Below.trans (B1.out.alloc B1.out.size _) (b2.mono (by have := B1.out.size; simp; omega)))
  clear b2 B1 hmk
  go_wp2_with fail
  have C := fun (w1 : World) h1 h2 => line_walk (some ⟨w2.heap.size, 0, none⟩) (some ⟨w2.heap.size + 1, 0, none⟩) 2 2 2 2 [0, 4607182418800017408] [4616189618054758400, 4616189618054758400] w1 h1 h2
  rw [k1] at C
  have F := two_lines w2 [0, 4607182418800017408] [4616189618054758400, 4616189618054758400] 2 2 rfl rfl (by decide +kernel) (by decide +kernel) (by decide) (by decide)
  refine (C _ F.1 F.2).mono ?_
  rintro e w3 ⟨rfl, b⟩
  have B3 := Lib.hid (Below.trans (Below.trans B2.out ((bel2 w2 _ _).mono B2.out.size)) (b.mono (by have := B2.out.size; simp; omega)))
  clear b C F B2
  go_wp2_with fail
  have C := fun (w1 : World) h1 h2 => line_walk (some ⟨w3.heap.size, 0, none⟩) (some ⟨w3.heap.size + 1, 0, none⟩) 1 1 1 1 [4607182418800017408] [4607182418800017408] w1 h1 h2
  rw [k2] at C
  have F := two_lines w3 [4607182418800017408] [4607182418800017408] 1 1 rfl rfl (by decide +kernel) (by decide +kernel) (by decide) (by decide)
  refine (C _ F.1 F.2).mono ?_
  rintro e w4 ⟨rfl, b⟩
  have B4 := Lib.hid (Below.trans (Below.trans B3.out ((bel2 w3 _ _).mono B3.out.size)) (b.mono (by have := B3.out.size; simp; omega)))
  clear b C F B3
  go_wp2_with fail
  have C := fun (w1 : World) h1 h2 => line_walk (some ⟨w4.heap.size, 0, none⟩) (some ⟨w4.heap.size + 1, 0, none⟩) 2 2 2 2 [4607182418800017408, 4607182418800017408] [0, 4607182418800017408] w1 h1 h2
  rw [k3] at C
  have F := two_lines w4 [4607182418800017408, 4607182418800017408] [0, 4607182418800017408] 2 2 rfl rfl (by decide +kernel) (by decide +kernel) (by decide) (by decide)
  refine (C _ F.1 F.2).mono ?_
  rintro e w5 ⟨rfl, b⟩
  have B5 := Lib.hid (Below.trans (Below.trans B4.out ((bel2 w4 _ _).mono B4.out.size)) (b.mono (by have := B4.out.size; simp; omega)))
  clear b C F B4
  go_wp2_with fail
  have F := two_lines w5 [0, 4607182418800017408, 4611686018427387904, 4613937818241073152] [0, 4607182418800017408, 4611686018427387904, 0] 4 4 rfl rfl (by decide +kernel) (by decide +kernel) (by decide) (by decide)
  refine (turns_walk (some ⟨w5.heap.size, 0, none⟩) (some ⟨w5.heap.size + 1, 0, none⟩) 4 4 4 4 [0, 4607182418800017408, 4611686018427387904, 4613937818241073152] [0, 4607182418800017408, 4611686018427387904, 0] 4613937818241073152 _ F.1 F.2).mono ?_
  rintro e w6 ⟨v6, rfl, ow, b⟩
  rw [k4]
  rw [k4'] at ow
  obtain ⟨a6, p6, rfl⟩ : ∃ a p, v6 = .slice a 0 p := own_form ow
  have B6 := Lib.hid (Below.trans (Below.trans B5.out ((bel2 w5 _ _).mono B5.out.size)) (b.mono (by have := B5.out.size; simp; omega)))
  clear b F B5 ow
  go_wp2_with fail
  have F := two_lines w6 [0, 0, 4607182418800017408] [0, 0, 4607182418800017408] 3 3 rfl rfl (by decide +kernel) (by decide +kernel) (by decide) (by decide)
  refine (turns_walk (some ⟨w6.heap.size, 0, none⟩) (some ⟨w6.heap.size + 1, 0, none⟩) 3 3 3 3 [0, 0, 4607182418800017408] [0, 0, 4607182418800017408] 0 _ F.1 F.2).mono ?_
  rintro e w7 ⟨v7, rfl, ow, b⟩
  rw [k5]
  have B7 := Lib.hid (Below.trans (Below.trans B6.out ((bel2 w6 _ _).mono B6.out.size)) (b.mono (by have := B6.out.size; simp; omega)))
  clear b F B6 ow
  go_wp2_with fail
  have F := two_lines w7 [0, 4607182418800017408] [0, 4607182418800017408] 2 2 rfl rfl (by decide +kernel) (by decide +kernel) (by decide) (by decide)
  refine (turns_walk (some ⟨w7.heap.size, 0, none⟩) (some ⟨w7.heap.size + 1, 0, none⟩) 2 2 2 2 [0, 4607182418800017408] [0, 4607182418800017408] 0 _ F.1 F.2).mono ?_
  rintro e w8 ⟨v8, rfl, ow, b⟩
  rw [k6]
  rw [k6'] at ow
  obtain ⟨a8, p8, rfl⟩ : ∃ a p, v8 = .slice a 0 p := own_form ow
  have B8 := Lib.hid (Below.trans (Below.trans B7.out ((bel2 w7 _ _).mono B7.out.size)) (b.mono (by have := B7.out.size; simp; omega)))
  clear b F B7 ow
  go_wp2_with fail
  refine (nan_walk _).mono ?_; rintro e w' ⟨rfl, rfl⟩
  go_wp2_with fail
  have F := two_lines w8 [0, 4607182418800017408] [0, 4607182418800017408] 2 2 rfl rfl (by decide +kernel) (by decide +kernel) (by decide) (by decide)
  refine (turns_walk (some ⟨w8.heap.size, 0, none⟩) (some ⟨w8.heap.size + 1, 0, none⟩) 2 2 2 2 [0, 4607182418800017408] [0, 4607182418800017408] qn _ F.1 F.2).mono ?_
  rintro e w9 ⟨v9, rfl, ow, b⟩
  rw [k7]
  have B9 := Lib.hid (Below.trans (Below.trans B8.out ((bel2 w8 _ _).mono B8.out.size)) (b.mono (by have := B8.out.size; simp; omega)))
  clear b F B8 ow
  go_wp2_with fail
  refine (works_walk _).mono ?_
  rintro e w10 ⟨rfl, b10⟩
  go_wp2_with fail
  go_ret
  exact ⟨rfl, Below.trans B9.out (b10.mono B9.out.size)⟩
theorem known_args (W : World) (base : Nat) (args : Array Value) (hsz : args.size = Try.f7.params.size) (hval : ∀ (j : Nat) t v, Try.f7.params[j]? = some t → args[j]? = some v → Value.okWide Try.prog W .any base t v) :
    Calls Try.prog 7 args W (fun e w' => e = .returned (.bool true) ∧ Below W.heap.size W w') := by
  rw [Try.params7] at hsz
  obtain rfl : args = #[] := by simpa using hsz
  exact known_law W

set_option maxRecDepth 100000 in
theorem known_lifted (os : Os) (started : os.Started) (H : Type) (enc : TypeId × Value → H) :
    ReturnsInHanded {} Try.checked os 7 .any (Rows.smoothKnownSpec.pre6 enc Try.prog Try.f7 Rows.smoothKnownRow.domain false) (Rows.smoothKnownSpec.post enc Try.prog Try.f7 false true false false) :=
  law_lifted (C := Try.checked) Try.own started (by kernel_rfl) Try.func7
    (ChangeSpec.witness6 (enc := enc) (C := Try.checked) false ⟨#[], #[], []⟩ 8 (by kernel_rfl) (by kernel_rfl) (by kernel_rfl) (by kernel_rfl))
    Try.laidOut (fun t ht => by have ht2 : t ∈ Try.f7.params.toList := ht; rw [Try.params7] at ht2; simp at ht2)
    rfl Try.underlying4 rfl (fun ds hd => by have hd2 : ds.length = Try.f7.params.size := hd; rw [Try.params7] at hd2; match ds, hd2 with | [], _ => exact ⟨rfl, rfl, rfl⟩) known_args

theorem known_holds : Rows.SmoothKnownSaid :=
  OpenClaim.holds_of_wide 7 Try.f7 rfl rfl rfl rfl rfl rfl rfl ⟨rfl, rfl, rfl, rfl, rfl⟩ rfl rfl rfl rfl rfl (by kernel_rfl) Try.func7 (by kernel_rfl)
    (of_decide_eq_true (by kernel_rfl)) (by unfold Func.isWrapper; first | (rw [if_pos (by decide +kernel)]; kernel_rfl) | (rw [if_neg (by decide +kernel)]; exact ⟨rfl, rfl⟩))
    (fun os started H enc _ => known_lifted os started H enc)
#print axioms known_holds
end Go.Proofs.Ytoobpiednigcgaa
