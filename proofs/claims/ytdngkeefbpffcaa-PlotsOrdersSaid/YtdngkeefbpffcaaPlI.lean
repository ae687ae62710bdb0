import Derived.Test.YtdngkeefbpffcaaPlH
import Derived.Test.YtdngkeefbpffcaaPlC
import Derived.Test.YtdngkeefbpffcaaRsC
import Derived.Test.YtdngkeefbpffcaaFlO
set_option autoImplicit false
set_option linter.unusedVariables false
namespace Go.Proofs.Ytdngkeefbpffcaa
open Go.RowKit Lk Pl
theorem stable_all (W : World) (kf kl g n cap : Nat) (a : Option Addr) (l : List Pt) (w : World) (h : So W kf kl g n cap n a l (List.range n) w) (hn : n ≤ 1048576) :
    Calls Try.prog 74 #[.slice (some ⟨g, 0, none⟩) n n, .int .i64 n, .func (.func 64) #[] #[.pointer (some ⟨kf, 0, none⟩), .pointer (some ⟨kl, 0, none⟩)]] w
      (fun e w' => e = .returned (.tuple #[]) ∧ So W kf kl g n cap n a l (insF (ltI l) 0 n (List.range n)) w') := by
  refine (stable_gen W kf kl g n cap n n a l w h (Nat.le_refl _) (by omega)).mono ?_
  rintro e w' ⟨rfl, E, hs, hr⟩
  rw [← srt_ins (ltI_wo l) hs.len hs.mem hr]
  exact ⟨rfl, hs⟩
theorem sort_all (W : World) (kf kl g n cap : Nat) (a : Option Addr) (l : List Pt) (w : World) (h : So W kf kl g n cap n a l (List.range n) w) (hn : n ≤ 1048576) :
    Calls Try.prog 63 #[.slice (some ⟨g, 0, none⟩) n n, .func (.func 64) #[] #[.pointer (some ⟨kf, 0, none⟩), .pointer (some ⟨kl, 0, none⟩)]] w
      (fun e w' => e = .returned (.tuple #[]) ∧ So W kf kl g n cap n a l (insF (ltI l) 0 n (List.range n)) w') := by
  have I := Lib.hid (stable_all W kf kl g n cap a l w h hn)
  clear h
  go_enter Try.func63, Try.ntmps63
  go_wp2_with fail
  refine I.out.mono ?_
  rintro e w1 ⟨rfl, s1⟩
  have S1 := Lib.hid s1
  clear s1 I
  go_wp2_with fail
  go_end0
  exact ⟨rfl, S1.out⟩
set_option maxHeartbeats 4000000 in
theorem ordered_all (a : Option Addr) (n cap : Nat) (l : List Pt) (w : World) (h : Sp w a n cap l) (hn : n ≤ 1048576) :
    Calls Try.prog 39 #[.slice a n cap, .func (.func 40) #[] #[]] w
      (fun e w' => ∃ g, e = .returned (.slice (some ⟨g, 0, none⟩) n n) ∧ w.heap.size ≤ g ∧ Di w' g (insF (ltI l) 0 n (List.range n)) ∧ Below w.heap.size w w') := by
  have hcf : ∀ (args : Array Value) (w : World), (callFunc 64 args).run Try.prog w = .ok (.enter 64 args) w := fun _ _ => by kernel_rfl
  obtain ⟨I, hi, hzz⟩ := Option.map_eq_some_iff.1 int_info3
  simp only [Prod.mk.injEq] at hzz
  obtain ⟨z, hz, hzc⟩ := Option.map_eq_some_iff.1 hzz.1
  have hmk : ∀ w : World, (Instr.makeSlice 48 (.int .i64 (n : Int)) (.int .i64 (n : Int))).run Try.prog w = .ok (.slice (some ⟨w.heap.size, 0, none⟩) n n) (w.alloc (.cells (ints (List.replicate n 0)).toArray 3)) := fun w => by
    have := run_make (P := Try.prog) w 48 3 I z Try.und48 hi hz .i64 .i64 n n (by omega) (Int.le_refl _) (by rw [hzz.2.2]; omega) (by omega)
    rw [hzc, hzz.2.1] at this
    rw [← made_ints]
    simpa using this
  have n63 : n ≤ 9223372036854775807 := by omega
  have SP := Lib.hid h
  clear h hzz hzc hz hi
  generalize hmz : (ints (List.replicate n 0)).toArray = mz at hmk
  have HMZ := Lib.hid hmz
  clear hmz
  go_enter Try.func39, Try.ntmps39
  go_upto_region 1 with fail
  refine wp_forget (fun wx => Cl wx (w.heap.size + 1) w.heap.size a n cap l ∧ Below w.heap.size w wx) ⟨⟨?_, ?_, ?_, ?_, ?_⟩, by (repeat' (first | exact Below.refl _ _ | refine below_drewN ?_ _ | refine Below.setCell ?_ (by first | exact Nat.le_refl _ | (simp; done) | (simp; omega)) _ | refine Below.alloc ?_ (by first | exact Nat.le_refl _ | (simp; done) | (simp; omega)) _))⟩ ?_
  · go_simp
  · go_simp
  · simp
  · simp; omega
  · exact SP.out.keep (by (repeat' (first | exact Below.refl _ _ | refine below_drewN ?_ _ | refine Below.setCell ?_ (by first | exact Nat.le_refl _ | (simp; done) | (simp; omega)) _ | refine Below.alloc ?_ (by first | exact Nat.le_refl _ | (simp; done) | (simp; omega)) _)))
  rintro W ⟨cl, bb⟩
  have CLW := Lib.hid cl
  have BB := Lib.hid bb
  have c1 := cl.cl
  have l1 := cl.ll
  clear cl bb
  go_upto_region 2 with fail
  refine wp_forget (fun wx => Di wx W.heap.size (List.replicate n 0) ∧ Below W.heap.size W wx) ⟨?_, by (repeat' (first | exact Below.refl _ _ | refine below_drewN ?_ _ | refine Below.setCell ?_ (by first | exact Nat.le_refl _ | (simp; done) | (simp; omega)) _ | refine Below.alloc ?_ (by first | exact Nat.le_refl _ | (simp; done) | (simp; omega)) _))⟩ ?_
  · unfold Di; rw [HMZ.out]; exact Deep.blk_alloc_new _ _
  rintro w1 ⟨d1, b1⟩
  have D1 := Lib.hid d1
  have B1 := Lib.hid b1
  clear d1 b1 c1 l1 hmk
  obtain ⟨g, hg⟩ : ∃ g, g = W.heap.size := ⟨_, rfl⟩
  rw [← hg] at D1 ⊢
  have HG := Lib.hid hg
  clear hg
  go_wp2_with fail
  go_loopw [12] (fun i wr => ∃ k : Nat, i = .int .i64 k ∧ k ≤ n ∧ Di wr g (List.range k ++ List.replicate (n - k) 0) ∧ Below W.heap.size W wr) (fun i _ => n - (intOf i).toNat)
  case atStart => exact ⟨0, rfl, by omega, D1.out, B1.out⟩
  case round =>
    clear D1 B1
    obtain ⟨k, rfl, hk, hd, hb⟩ := hrel
    have DK := Lib.hid hd
    have BK := Lib.hid hb
    clear hd hb
    by_cases hlt : k < n
    · have kn : (k : Int) < (n : Int) := by omega
      have gl := DK.out.lt
      have f0 := DK.out.frozen k
      obtain ⟨x0, hx0⟩ : ∃ x, (List.range k ++ List.replicate (n - k) 0)[k]? = some x := ⟨_, List.getElem?_eq_getElem (by simp; omega)⟩
      have c0 := DK.out.cell hx0
      clear hx0
      go_wp2_with fail
      go_roundw
      case rel => exact ⟨k + 1, by go_num, by omega, by rw [← fill_set hlt]; exact DK.out.set k k, BK.out.trans (Below.setCell (Below.refl _ _) (by rw [HG.out]; exact Nat.le_refl _) _)⟩
      case measure => simp only [intOf]; omega
    · obtain rfl : k = n := by omega
      have S0 : So W (w.heap.size + 1) w.heap.size g k cap k a l (List.range k) wr := ⟨CLW.out, by rw [HG.out]; exact Nat.le_refl _, BK.out, by have := DK.out; rw [Nat.sub_self, List.replicate_zero, List.append_nil] at this; exact this, by simp, fun x hx => List.mem_range.1 hx⟩
      have I := Lib.hid (sort_all W _ _ g k cap a l wr S0 hn)
      clear S0 DK
      go_wp2_with fail
      refine I.out.mono ?_
      rintro e w5 ⟨rfl, s5⟩
      have S5 := Lib.hid s5
      clear s5 I
      go_wp2_with fail
      go_ret
      exact ⟨g, rfl, by rw [HG.out]; exact BB.out.size, S5.out.d, BB.out.trans (S5.out.b.mono BB.out.size)⟩
theorem order_all (a : Option Addr) (n cap : Nat) (l : List Pt) (w : World) (h : Sp w a n cap l) (hn : n ≤ 1048576) :
    Calls Try.prog 20 #[.slice a n cap] w
      (fun e w' => ∃ g, e = .returned (.slice (some ⟨g, 0, none⟩) n n) ∧ w.heap.size ≤ g ∧ Di w' g (insF (ltI l) 0 n (List.range n)) ∧ Below w.heap.size w w') := by
  have I := Lib.hid (ordered_all a n cap l w h hn)
  clear h
  go_enter Try.func20, Try.ntmps20
  go_wp2_with fail
  refine I.out.mono ?_
  rintro e w1 ⟨g, rfl, hg, hd, hb⟩
  have H := Lib.hid (And.intro hg (And.intro hd hb))
  clear hg hd hb I
  go_wp2_with fail
  go_ret
  exact ⟨g, rfl, H.out.1, H.out.2.1, H.out.2.2⟩
end Go.Proofs.Ytdngkeefbpffcaa

set_option autoImplicit false
set_option linter.unusedVariables false
namespace Go.Proofs.Ytdngkeefbpffcaa
open Go.RowKit Lk Pl
@[go_sem] theorem run_from (n : Int) (w : World) : (callFunc 47 #[.int .u64 n]).run Try.prog w = .ok (.value (.float .f64 n.toNat)) w :=
  run_callFunc_extern Try.func47 (by kernel_rfl) (by kernel_rfl) (by kernel_rfl) (e := Extern.MathFloatBits.float64frombits) (by kernel_rfl) _ w
theorem abs_walk (x : Nat) (w : World) (hl : x < 2 ^ 64) : Calls Try.prog 26 #[.float .f64 x] w (fun e w' => e = .returned (.float .f64 (fabs x)) ∧ w = w') := by
  have H := Lib.hid (andNot_sign hl)
  go_enter Try.func26, Try.ntmps26
  go_wp2
  go_ret
  exact ⟨ret_float H.out, rfl⟩
theorem isnan_walk (x : Nat) (w : World) : Calls Try.prog 54 #[.float .f64 x] w (fun e w' => e = .returned (.bool (decide (Nan x))) ∧ w = w') := by
  go_enter Try.func54, Try.ntmps54
  go_wp2
  go_ret
  exact ⟨ret_bool (ne_self x), rfl⟩
theorem isinf_walk (x : Nat) (w : World) (hl : x < 2 ^ 64) : Calls Try.prog 55 #[.float .f64 x, .int .i64 0] w (fun e w' => e = .returned (.bool (decide (Inf x))) ∧ w = w') := by
  go_enter Try.func55, Try.ntmps55
  go_wp2_with (go_at_call 26; refine (abs_walk _ _ hl).mono ?_; rintro e w' ⟨rfl, rfl⟩)
  go_ret
  exact ⟨ret_bool cgt_max_fabs, rfl⟩
theorem bad_walk (x : Nat) (w : World) (hl : x < 2 ^ 64) : Calls Try.prog 53 #[.float .f64 x] w (fun e w' => e = .returned (.bool (!decide (Lk.Fin x))) ∧ w = w') := by
  rcases fin_or x with hf | hi | hn
  · have d1 : decide (Nan x) = false := decide_eq_false hf.not_nan
    have d2 : decide (Inf x) = false := decide_eq_false (by unfold Lk.Fin at hf; unfold Inf; omega)
    have d3 : decide (Lk.Fin x) = true := decide_eq_true hf
    rw [d3]
    have I1 := isnan_walk x
    have I2 := fun w => isinf_walk x w hl
    rw [d1] at I1
    rw [d2] at I2
    go_enter Try.func53, Try.ntmps53
    go_wp2_with (first | (go_at_call 54; refine (I1 _).mono ?_; rintro e w' ⟨rfl, rfl⟩) | (go_at_call 55; refine (I2 _).mono ?_; rintro e w' ⟨rfl, rfl⟩))
    go_ret
    exact ⟨rfl, rfl⟩
  · have d1 : decide (Nan x) = false := decide_eq_false (by unfold Inf at hi; unfold Nan; omega)
    have d2 : decide (Inf x) = true := decide_eq_true hi
    have d3 : decide (Lk.Fin x) = false := decide_eq_false (by unfold Inf at hi; unfold Lk.Fin; omega)
    rw [d3]
    have I1 := isnan_walk x
    have I2 := fun w => isinf_walk x w hl
    rw [d1] at I1
    rw [d2] at I2
    go_enter Try.func53, Try.ntmps53
    go_wp2_with (first | (go_at_call 54; refine (I1 _).mono ?_; rintro e w' ⟨rfl, rfl⟩) | (go_at_call 55; refine (I2 _).mono ?_; rintro e w' ⟨rfl, rfl⟩))
    go_ret
    exact ⟨rfl, rfl⟩
  · have d1 : decide (Nan x) = true := decide_eq_true hn
    have d3 : decide (Lk.Fin x) = false := decide_eq_false (by unfold Nan at hn; unfold Lk.Fin; omega)
    rw [d3]
    have I1 := isnan_walk x
    rw [d1] at I1
    go_enter Try.func53, Try.ntmps53
    go_wp2_with (first | (go_at_call 54; refine (I1 _).mono ?_; rintro e w' ⟨rfl, rfl⟩))
    go_ret
    exact ⟨rfl, rfl⟩
/-- a row of floats in memory -/
structure Fl5 (w : World) (g n : Nat) (l : List Nat) : Prop where
  len : l.length = n
  lt : ∀ x ∈ l, x < 2 ^ 64
  lg : g < w.heap.size
  cell : ∀ (j x : Nat), l[j]? = some x → w.cell? ⟨g, j, none⟩ = some (.float .f64 x)
set_option maxHeartbeats 1000000 in
theorem index5_walk (g n c : Nat) (l : List Nat) (w : World) (h : Fl5 w g n l) (hc : n ≤ c) (h63 : c ≤ 9223372036854775807) :
    Calls Try.prog 73 #[.slice (some ⟨g, 0, none⟩) n c, .func (.func 53) #[] #[]] w (fun e w' => (∃ i : Int, e = .returned (.int .i64 i) ∧ ((l.all fun x => decide (Lk.Fin x)) = !decide (0 ≤ i))) ∧ w = w') := by
  have hcf : ∀ (args : Array Value) (w : World), (callFunc 53 args).run Try.prog w = .ok (.enter 53 args) w := fun _ _ => by kernel_rfl
  have H := Lib.hid h
  have lg := h.lg
  clear h
  go_enter Try.func73, Try.ntmps73
  go_wp2_with fail
  go_loopw [8] (fun i wr => ∃ k : Nat, i = .int .i64 k ∧ k ≤ n ∧ ((l.take k).all fun x => decide (Lk.Fin x)) = true ∧ w = wr) (fun i _ => n - (intOf i).toNat)
  case atStart => exact ⟨0, rfl, by omega, rfl, rfl⟩
  case round =>
    obtain ⟨k, rfl, hk, hf, rfl⟩ := hrel
    have HF := Lib.hid hf
    clear hf
    by_cases hlt : k < n
    · obtain ⟨x, hx⟩ : ∃ x, l[k]? = some x := ⟨_, List.getElem?_eq_getElem (by rw [H.out.len]; exact hlt)⟩
      have c0 := H.out.cell k x hx
      have I := Lib.hid (bad_walk x w (H.out.lt x (List.mem_of_getElem? hx)))
      have kn : (k : Int) < (n : Int) := by omega
      have HX := Lib.hid hx
      clear hx
      go_wp2_with fail
      refine I.out.mono ?_
      rintro e w1 ⟨rfl, rfl⟩
      cases hfx : decide (Lk.Fin x) with
      | false =>
        have NF := Lib.hid (show (l.all fun x => decide (Lk.Fin x)) = false by rw [List.all_eq_false]; exact ⟨x, List.mem_of_getElem? HX.out, by rw [hfx]; decide⟩)
        clear hfx
        go_wp2_with fail
        go_ret
        exact ⟨⟨k, rfl, by rw [NF.out]; simp⟩, rfl⟩
      | true =>
        have NX := Lib.hid (show ((l.take (k + 1)).all fun x => decide (Lk.Fin x)) = true by rw [List.take_add_one, HX.out]; simp only [Option.toList_some, List.all_append, HF.out]; simp [hfx])
        clear hfx
        go_wp2_with fail
        go_roundw
        case rel => exact ⟨k + 1, by go_num, by omega, NX.out, trivial⟩
        case measure => simp only [intOf]; omega
    · have e : l.take k = l := List.take_of_length_le (by rw [H.out.len]; omega)
      rw [e] at HF
      go_wp2_with fail
      go_ret
      exact ⟨⟨-1, rfl, by rw [HF.out]; rfl⟩, rfl⟩
theorem finite_walk (g n c : Nat) (l : List Nat) (w : World) (h : Fl5 w g n l) (hc : n ≤ c) (h63 : c ≤ 9223372036854775807) :
    Calls Try.prog 29 #[.slice (some ⟨g, 0, none⟩) n c] w (fun e w' => e = .returned (.bool (l.all fun x => decide (Lk.Fin x))) ∧ w = w') := by
  have I := Lib.hid (index5_walk g n c l w h hc h63)
  clear h
  have J : Hid (Calls Try.prog 52 #[.slice (some ⟨g, 0, none⟩) n c, .func (.func 53) #[] #[]] w (fun e w' => e = .returned (.bool (!(l.all fun x => decide (Lk.Fin x)))) ∧ w = w')) := Lib.hid (by
    go_enter Try.func52, Try.ntmps52
    go_wp2_with fail
    refine I.out.mono ?_
    rintro e w1 ⟨⟨i, rfl, hl⟩, rfl⟩
    have HL := Lib.hid hl
    clear hl I
    go_wp2_with fail
    go_ret
    exact ⟨ret_bool (by rw [HL.out, Bool.not_not]), rfl⟩)
  clear I
  go_enter Try.func29, Try.ntmps29
  go_wp2_with fail
  refine J.out.mono ?_
  rintro e w1 ⟨rfl, rfl⟩
  go_wp2_with fail
  go_ret
  exact ⟨ret_bool (by simp), rfl⟩
end Go.Proofs.Ytdngkeefbpffcaa
