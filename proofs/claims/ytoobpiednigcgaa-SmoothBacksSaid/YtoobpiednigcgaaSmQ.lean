import Derived.Test.YtoobpiednigcgaaSmM
set_option autoImplicit false
set_option linter.unusedVariables false
namespace Go.Proofs.Ytoobpiednigcgaa
open Go.RowKit Lk
theorem addL_snoc {l : List Nat} (h : l ≠ []) (x : Nat) : addL (l ++ [x]) = fadd (addL l) x := by
  cases l with
  | nil => exact absurd rfl h
  | cons a l => simp [addL, List.foldl_append]
theorem addL_take {l : List Nat} {k x : Nat} (h : l[k]? = some x) (hk : 0 < k) : addL (l.take (k + 1)) = fadd (addL (l.take k)) x := by
  rw [take_snoc' h, addL_snoc]
  intro h0
  have := congrArg List.length h0
  have hl := (List.getElem?_eq_some_iff.1 h).1
  rw [List.length_take, List.length_nil] at this
  omega
theorem addL_one {l : List Nat} {x : Nat} (h : l[0]? = some x) : addL (l.take 1) = x := by
  rw [take_snoc' h]; rfl
set_option maxHeartbeats 1000000 in
/-- a sum of what a closure tells: L is what it tells at 0 .. n - 1 -/
theorem sum_walk (f : FuncId) (caps : Array Value) (n : Nat) (L : List Nat) (w : World) (hn : 1 ≤ n) (hn2 : n ≤ 1048576) (hL : L.length = n)
    (hcf : ∀ (args : Array Value) (w : World), (callFunc f args).run Try.prog w = .ok (.enter f args) w)
    (hf : ∀ (k x : Nat) (w' : World), L[k]? = some x → Below w.heap.size w w' → Calls Try.prog f (#[.int .i64 k] ++ caps) w' (fun e w'' => ∃ v, e = .returned (.float .f64 v) ∧ Is v x ∧ Below w'.heap.size w' w'')) :
    Calls Try.prog 39 #[.int .i64 n, .func (.func f) #[] caps] w (fun e w' => ∃ v, e = .returned (.float .f64 v) ∧ Is v (addL L) ∧ Below w.heap.size w w') := by
  have HF := Lib.hid hf
  have HL := Lib.hid hL
  obtain ⟨x0, hx0⟩ : ∃ x, L[0]? = some x := ⟨_, List.getElem?_eq_getElem (by omega)⟩
  have HX := Lib.hid hx0
  clear hf hL hx0
  go_enter Try.func39, Try.ntmps39
  go_wp2_with fail
  have K0 := HF.out 0 x0 w HX.out (Below.refl _ _)
  refine K0.mono ?_; rintro e w1 ⟨v0, rfl, hv0, hb1⟩
  clear K0
  have H1 := Lib.hid hb1
  have HV := Lib.hid hv0
  clear hb1 hv0
  go_wp2_with fail
  go_loopw [5, 6] (fun s i wr => ∃ k v : Nat, 1 ≤ k ∧ k ≤ n ∧ i = .int .i64 k ∧ s = .float .f64 v ∧ Is v (addL (L.take k)) ∧ Below w.heap.size w wr) (fun _ i _ => n - (intOf i).toNat)
  case atStart => exact ⟨1, v0, by omega, by omega, rfl, rfl, by rw [addL_one HX.out]; exact HV.out, H1.out⟩
  case round =>
    obtain ⟨k, v, hk1, hk, rfl, rfl, hv, hb⟩ := hrel
    have HB := Lib.hid hb
    have HV := Lib.hid hv
    clear hb hv
    by_cases hlt : k < n
    · obtain ⟨x, hx⟩ : ∃ x, L[k]? = some x := ⟨_, List.getElem?_eq_getElem (by rw [HL.out]; omega)⟩
      have HX := Lib.hid hx
      clear hx
      go_wp2_with fail
      refine (HF.out k x wr HX.out HB.out).mono ?_; rintro e w2 ⟨v2, rfl, hv2, hb2⟩
      have HB2 := Lib.hid (HB.out.trans (hb2.mono HB.out.size))
      have hv := HV.out
      clear hb2
      go_wp2_with ((with_reducible refine wpList_float (x := ?_) (y := ?_) (X := ?_) (Y := ?_) rfl rfl ?_ ?_ ?_ ?_ ?_ ?_); (· rfl); (rotate_left 4); (· rfl); (· rfl); (· first | assumption | exact Is.refl _); (· first | assumption | exact Is.refl _); intro v n hv hl)
      go_roundw
      case rel => exact ⟨k + 1, _, by omega, by omega, by go_num, rfl, by rw [addL_take HX.out (by omega)]; assumption, below_drewN HB2.out _⟩
      case measure => simp [intOf]; omega
    · obtain rfl : k = n := by omega
      go_wp2_with fail
      go_ret
      exact ⟨_, rfl, by have := HV.out; rwa [List.take_of_length_le (by rw [HL.out]; omega)] at this, HB.out⟩
end Go.Proofs.Ytoobpiednigcgaa
