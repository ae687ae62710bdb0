import Derived.Test.YtdngkeefbpffcaaPlA
import Derived.Test.YtdngkeefbpffcaaRsC
import Derived.Test.YtdngkeefbpffcaaFlO
set_option autoImplicit false
set_option linter.unusedVariables false
namespace Go.Proofs.Ytdngkeefbpffcaa
open Go.RowKit Lk Pl
@[go_sem] theorem run_from (n : Int) (w : World) : (callFunc 47 #[.int .u64 n]).run Try.prog w = .ok (.value (.float .f64 n.toNat)) w :=
  run_callFunc_extern Try.func47 (by kernel_rfl) (by kernel_rfl) (by kernel_rfl) (e := Extern.MathFloatBits.float64frombits) (by kernel_rfl) _ w
theorem abs_walk (x : Nat) (w : World) (hl : x < 2 ^ 64) : Calls Try.prog 26 #[.float .f64 x] w (fun e w' => e = .returned (.float .f64 (fabs x)) ∧ w = w') := by
  have H := Lib.hid (andNot_sign hl)
  go_enter Try.func26, Try.ntmps26
  go_wp2
  go_ret
  exact ⟨ret_float H.out, rfl⟩
theorem isnan_walk (x : Nat) (w : World) : Calls Try.prog 54 #[.float .f64 x] w (fun e w' => e = .returned (.bool (decide (Nan x))) ∧ w = w') := by
  go_enter Try.func54, Try.ntmps54
  go_wp2
  go_ret
  exact ⟨ret_bool (ne_self x), rfl⟩
theorem isinf_walk (x : Nat) (w : World) (hl : x < 2 ^ 64) : Calls Try.prog 55 #[.float .f64 x, .int .i64 0] w (fun e w' => e = .returned (.bool (decide (Inf x))) ∧ w = w') := by
  go_enter Try.func55, Try.ntmps55
  go_wp2_with (go_at_call 26; refine (abs_walk _ _ hl).mono ?_; rintro e w' ⟨rfl, rfl⟩)
  go_ret
  exact ⟨ret_bool cgt_max_fabs, rfl⟩
theorem bad_walk (x : Nat) (w : World) (hl : x < 2 ^ 64) : Calls Try.prog 53 #[.float .f64 x] w (fun e w' => e = .returned (.bool (!decide (Lk.Fin x))) ∧ w = w') := by
  rcases fin_or x with hf | hi | hn
  · have d1 : decide (Nan x) = false := decide_eq_false hf.not_nan
    have d2 : decide (Inf x) = false := decide_eq_false (by unfold Lk.Fin at hf; unfold Inf; omega)
    have d3 : decide (Lk.Fin x) = true := decide_eq_true hf
    rw [d3]
    have I1 := isnan_walk x
    have I2 := fun w => isinf_walk x w hl
    rw [d1] at I1
    rw [d2] at I2
    go_enter Try.func53, Try.ntmps53
    go_wp2_with (first | (go_at_call 54; refine (I1 _).mono ?_; rintro e w' ⟨rfl, rfl⟩) | (go_at_call 55; refine (I2 _).mono ?_; rintro e w' ⟨rfl, rfl⟩))
    go_ret
    exact ⟨rfl, rfl⟩
  · have d1 : decide (Nan x) = false := decide_eq_false (by unfold Inf at hi; unfold Nan; omega)
    have d2 : decide (Inf x) = true := decide_eq_true hi
    have d3 : decide (Lk.Fin x) = false := decide_eq_false (by unfold Inf at hi; unfold Lk.Fin; omega)
    rw [d3]
    have I1 := isnan_walk x
    have I2 := fun w => isinf_walk x w hl
    rw [d1] at I1
    rw [d2] at I2
    go_enter Try.func53, Try.ntmps53
    go_wp2_with (first | (go_at_call 54; refine (I1 _).mono ?_; rintro e w' ⟨rfl, rfl⟩) | (go_at_call 55; refine (I2 _).mono ?_; rintro e w' ⟨rfl, rfl⟩))
    go_ret
    exact ⟨rfl, rfl⟩
  · have d1 : decide (Nan x) = true := decide_eq_true hn
    have d3 : decide (Lk.Fin x) = false := decide_eq_false (by unfold Nan at hn; unfold Lk.Fin; omega)
    rw [d3]
    have I1 := isnan_walk x
    rw [d1] at I1
    go_enter Try.func53, Try.ntmps53
    go_wp2_with (first | (go_at_call 54; refine (I1 _).mono ?_; rintro e w' ⟨rfl, rfl⟩))
    go_ret
    exact ⟨rfl, rfl⟩
/-- a row of floats in memory -/
structure Fl5 (w : World) (g n : Nat) (l : List Nat) : Prop where
  len : l.length = n
  lt : ∀ x ∈ l, x < 2 ^ 64
  lg : g < w.heap.size
  cell : ∀ (j x : Nat), l[j]? = some x → w.cell? ⟨g, j, none⟩ = some (.float .f64 x)
set_option maxHeartbeats 1000000 in
theorem index5_walk (g n c : Nat) (l : List Nat) (w : World) (h : Fl5 w g n l) (hc : n ≤ c) (h63 : c ≤ 9223372036854775807) :
    Calls Try.prog 73 #[.slice (some ⟨g, 0, none⟩) n c, .func (.func 53) #[] #[]] w (fun e w' => (∃ i : Int, e = .returned (.int .i64 i) ∧ ((l.all fun x => decide (Lk.Fin x)) = !decide (0 ≤ i))) ∧ w = w') := by
  have hcf : ∀ (args : Array Value) (w : World), (callFunc 53 args).run Try.prog w = .ok (.enter 53 args) w := fun _ _ => by kernel_rfl
  have H := Lib.hid h
  have lg := h.lg
  clear h
  go_enter Try.func73, Try.ntmps73
  go_wp2_with fail
  go_loopw [8] (fun i wr => ∃ k : Nat, i = .int .i64 k ∧ k ≤ n ∧ ((l.take k).all fun x => decide (Lk.Fin x)) = true ∧ w = wr) (fun i _ => n - (intOf i).toNat)
  case atStart => exact ⟨0, rfl, by omega, rfl, rfl⟩
  case round =>
    obtain ⟨k, rfl, hk, hf, rfl⟩ := hrel
    have HF := Lib.hid hf
    clear hf
    by_cases hlt : k < n
    · obtain ⟨x, hx⟩ : ∃ x, l[k]? = some x := ⟨_, List.getElem?_eq_getElem (by rw [H.out.len]; exact hlt)⟩
      have c0 := H.out.cell k x hx
      have I := Lib.hid (bad_walk x w (H.out.lt x (List.mem_of_getElem? hx)))
      have kn : (k : Int) < (n : Int) := by omega
      have HX := Lib.hid hx
      clear hx
      go_wp2_with fail
      refine I.out.mono ?_
      rintro e w1 ⟨rfl, rfl⟩
      cases hfx : decide (Lk.Fin x) with
      | false =>
        have NF := Lib.hid (show (l.all fun x => decide (Lk.Fin x)) = false by rw [List.all_eq_false]; exact ⟨x, List.mem_of_getElem? HX.out, by rw [hfx]; decide⟩)
        clear hfx
        go_wp2_with fail
        go_ret
        exact ⟨⟨k, rfl, by rw [NF.out]; simp⟩, rfl⟩
      | true =>
        have NX := Lib.hid (show ((l.take (k + 1)).all fun x => decide (Lk.Fin x)) = true by rw [List.take_add_one, HX.out]; simp only [Option.toList_some, List.all_append, HF.out]; simp [hfx])
        clear hfx
        go_wp2_with fail
        go_roundw
        case rel => exact ⟨k + 1, by go_num, by omega, NX.out, trivial⟩
        case measure => simp only [intOf]; omega
    · have e : l.take k = l := List.take_of_length_le (by rw [H.out.len]; omega)
      rw [e] at HF
      go_wp2_with fail
      go_ret
      exact ⟨⟨-1, rfl, by rw [HF.out]; rfl⟩, rfl⟩
theorem finite_walk (g n c : Nat) (l : List Nat) (w : World) (h : Fl5 w g n l) (hc : n ≤ c) (h63 : c ≤ 9223372036854775807) :
    Calls Try.prog 29 #[.slice (some ⟨g, 0, none⟩) n c] w (fun e w' => e = .returned (.bool (l.all fun x => decide (Lk.Fin x))) ∧ w = w') := by
  have I := Lib.hid (index5_walk g n c l w h hc h63)
  clear h
  have J : Hid (Calls Try.prog 52 #[.slice (some ⟨g, 0, none⟩) n c, .func (.func 53) #[] #[]] w (fun e w' => e = .returned (.bool (!(l.all fun x => decide (Lk.Fin x)))) ∧ w = w')) := Lib.hid (by
    go_enter Try.func52, Try.ntmps52
    go_wp2_with fail
    refine I.out.mono ?_
    rintro e w1 ⟨⟨i, rfl, hl⟩, rfl⟩
    have HL := Lib.hid hl
    clear hl I
    go_wp2_with fail
    go_ret
    exact ⟨ret_bool (by rw [HL.out, Bool.not_not]), rfl⟩)
  clear I
  go_enter Try.func29, Try.ntmps29
  go_wp2_with fail
  refine J.out.mono ?_
  rintro e w1 ⟨rfl, rfl⟩
  go_wp2_with fail
  go_ret
  exact ⟨ret_bool (by simp), rfl⟩
end Go.Proofs.Ytdngkeefbpffcaa
