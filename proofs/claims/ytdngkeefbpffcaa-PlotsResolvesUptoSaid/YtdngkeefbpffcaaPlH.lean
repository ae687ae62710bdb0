import Derived.Test.YtdngkeefbpffcaaPlG
set_option autoImplicit false
set_option linter.unusedVariables false
namespace Go.Proofs.Ytdngkeefbpffcaa
open Go.RowKit Lk Pl
theorem Try.und48 : Try.prog.underlying 48 = some (.slice 3) := by kernel_rfl
theorem int_info3 : (Try.prog.info? 3).map (fun i => (i.zero.map (·.cells), i.size, i.bytes)) = some (some #[.int .i64 0], 1, 8) := by kernel_rfl
theorem made_ints (n : Nat) : madeCells #[.int .i64 0] (n * 1) = (ints (List.replicate n 0)).toArray := by
  apply Array.ext
  · simp [size_madeCells, ints]
  · intro i h1 h2
    unfold madeCells ints
    simp [Nat.mod_one]
theorem fill_set {n k : Nat} (h : k < n) : (List.range k ++ List.replicate (n - k) 0).set k k = List.range (k + 1) ++ List.replicate (n - (k + 1)) 0 := by
  rw [List.set_append_right _ _ (by simp), List.length_range, Nat.sub_self, show n - k = (n - (k + 1)) + 1 by omega, List.replicate_succ, List.set_cons_zero, List.range_succ, List.append_assoc]
  rfl
set_option maxHeartbeats 4000000 in
theorem ordered_walk (a : Option Addr) (n cap : Nat) (l : List Pt) (w : World) (h : Sp w a n cap l) (h20 : n < 20) :
    Calls Try.prog 39 #[.slice a n cap, .func (.func 40) #[] #[]] w
      (fun e w' => ∃ g, e = .returned (.slice (some ⟨g, 0, none⟩) n n) ∧ w.heap.size ≤ g ∧ Di w' g (insF (ltI l) 0 n (List.range n)) ∧ Below w.heap.size w w') := by
  have hcf : ∀ (args : Array Value) (w : World), (callFunc 64 args).run Try.prog w = .ok (.enter 64 args) w := fun _ _ => by kernel_rfl
  obtain ⟨I, hi, hzz⟩ := Option.map_eq_some_iff.1 int_info3
  simp only [Prod.mk.injEq] at hzz
  obtain ⟨z, hz, hzc⟩ := Option.map_eq_some_iff.1 hzz.1
  have hmk : ∀ w : World, (Instr.makeSlice 48 (.int .i64 (n : Int)) (.int .i64 (n : Int))).run Try.prog w = .ok (.slice (some ⟨w.heap.size, 0, none⟩) n n) (w.alloc (.cells (ints (List.replicate n 0)).toArray 3)) := fun w => by
    have := run_make (P := Try.prog) w 48 3 I z Try.und48 hi hz .i64 .i64 n n (by omega) (Int.le_refl _) (by rw [hzz.2.2]; omega) (by omega)
    rw [hzc, hzz.2.1] at this
    rw [← made_ints]
    simpa using this
  have n63 : n ≤ 9223372036854775807 := by omega
  have SP := Lib.hid h
  clear h hzz hzc hz hi
  generalize hmz : (ints (List.replicate n 0)).toArray = mz at hmk
  have HMZ := Lib.hid hmz
  clear hmz
  go_enter Try.func39, Try.ntmps39
  go_upto_region 1 with fail
  refine wp_forget (fun wx => Cl wx (w.heap.size + 1) w.heap.size a n cap l ∧ Below w.heap.size w wx) ⟨⟨?_, ?_, ?_, ?_, ?_⟩, by (repeat' (first | exact Below.refl _ _ | refine below_drewN ?_ _ | refine Below.setCell ?_ (by first | exact Nat.le_refl _ | (simp; done) | (simp; omega)) _ | refine Below.alloc ?_ (by first | exact Nat.le_refl _ | (simp; done) | (simp; omega)) _))⟩ ?_
  · go_simp
  · go_simp
  · simp
  · simp; omega
  · exact SP.out.keep (by (repeat' (first | exact Below.refl _ _ | refine below_drewN ?_ _ | refine Below.setCell ?_ (by first | exact Nat.le_refl _ | (simp; done) | (simp; omega)) _ | refine Below.alloc ?_ (by first | exact Nat.le_refl _ | (simp; done) | (simp; omega)) _)))
  rintro W ⟨cl, bb⟩
  have CLW := Lib.hid cl
  have BB := Lib.hid bb
  have c1 := cl.cl
  have l1 := cl.ll
  clear cl bb
  go_upto_region 2 with fail
  refine wp_forget (fun wx => Di wx W.heap.size (List.replicate n 0) ∧ Below W.heap.size W wx) ⟨?_, by (repeat' (first | exact Below.refl _ _ | refine below_drewN ?_ _ | refine Below.setCell ?_ (by first | exact Nat.le_refl _ | (simp; done) | (simp; omega)) _ | refine Below.alloc ?_ (by first | exact Nat.le_refl _ | (simp; done) | (simp; omega)) _))⟩ ?_
  · unfold Di; rw [HMZ.out]; exact Deep.blk_alloc_new _ _
  rintro w1 ⟨d1, b1⟩
  have D1 := Lib.hid d1
  have B1 := Lib.hid b1
  clear d1 b1 c1 l1 hmk
  obtain ⟨g, hg⟩ : ∃ g, g = W.heap.size := ⟨_, rfl⟩
  rw [← hg] at D1 ⊢
  have HG := Lib.hid hg
  clear hg
  go_wp2_with fail
  go_loopw [12] (fun i wr => ∃ k : Nat, i = .int .i64 k ∧ k ≤ n ∧ Di wr g (List.range k ++ List.replicate (n - k) 0) ∧ Below W.heap.size W wr) (fun i _ => n - (intOf i).toNat)
  case atStart => exact ⟨0, rfl, by omega, D1.out, B1.out⟩
  case round =>
    clear D1 B1
    obtain ⟨k, rfl, hk, hd, hb⟩ := hrel
    have DK := Lib.hid hd
    have BK := Lib.hid hb
    clear hd hb
    by_cases hlt : k < n
    · have kn : (k : Int) < (n : Int) := by omega
      have gl := DK.out.lt
      have f0 := DK.out.frozen k
      obtain ⟨x0, hx0⟩ : ∃ x, (List.range k ++ List.replicate (n - k) 0)[k]? = some x := ⟨_, List.getElem?_eq_getElem (by simp; omega)⟩
      have c0 := DK.out.cell hx0
      clear hx0
      go_wp2_with fail
      go_roundw
      case rel => exact ⟨k + 1, by go_num, by omega, by rw [← fill_set hlt]; exact DK.out.set k k, BK.out.trans (Below.setCell (Below.refl _ _) (by rw [HG.out]; exact Nat.le_refl _) _)⟩
      case measure => simp only [intOf]; omega
    · obtain rfl : k = n := by omega
      have S0 : So W (w.heap.size + 1) w.heap.size g k cap k a l (List.range k) wr := ⟨CLW.out, by rw [HG.out]; exact Nat.le_refl _, BK.out, by have := DK.out; rw [Nat.sub_self, List.replicate_zero, List.append_nil] at this; exact this, by simp, fun x hx => List.mem_range.1 hx⟩
      have I := Lib.hid (sort_walk W _ _ g k cap k k a l _ wr S0 (Nat.le_refl _) (by omega) h20)
      clear S0 DK
      go_wp2_with fail
      refine I.out.mono ?_
      rintro e w5 ⟨rfl, s5⟩
      have S5 := Lib.hid s5
      clear s5 I
      go_wp2_with fail
      go_ret
      exact ⟨g, rfl, by rw [HG.out]; exact BB.out.size, S5.out.d, BB.out.trans (S5.out.b.mono BB.out.size)⟩
theorem order_walk (a : Option Addr) (n cap : Nat) (l : List Pt) (w : World) (h : Sp w a n cap l) (h20 : n < 20) :
    Calls Try.prog 20 #[.slice a n cap] w
      (fun e w' => ∃ g, e = .returned (.slice (some ⟨g, 0, none⟩) n n) ∧ w.heap.size ≤ g ∧ Di w' g (insF (ltI l) 0 n (List.range n)) ∧ Below w.heap.size w w') := by
  have I := Lib.hid (ordered_walk a n cap l w h h20)
  clear h
  go_enter Try.func20, Try.ntmps20
  go_wp2_with fail
  refine I.out.mono ?_
  rintro e w1 ⟨g, rfl, hg, hd, hb⟩
  have H := Lib.hid (And.intro hg (And.intro hd hb))
  clear hg hd hb I
  go_wp2_with fail
  go_ret
  exact ⟨g, rfl, H.out.1, H.out.2.1, H.out.2.2⟩
end Go.Proofs.Ytdngkeefbpffcaa
