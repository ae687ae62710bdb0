import Derived.Test.YtdngkeefbpffcaaPlM
set_option autoImplicit false
set_option linter.unusedVariables false
namespace Go.Proofs.Ytdngkeefbpffcaa
open Go.RowKit Lk Pl
def pt0 : Pt := ⟨0, 0, 0, 0, 0⟩
def nr (l : List Pt) (one : Pt) (m s : Nat) (x : Nat) : Bool := nearB m s (l.getD x pt0) one
def pw (l : List Pt) (x : Nat) : Nat := (l.getD x pt0).power
theorem getP {l : List Pt} {x : Nat} (h : x < l.length) : l[x]? = some (l.getD x pt0) := by
  rw [List.getD_eq_getElem?_getD, List.getElem?_eq_getElem h]; rfl
/-- what IndexFunc answers on Merge's closure -/
structure Ix (C : Nat) (w w' : World) (kp : Nat) (l : List Pt) (one : Pt) (m s : Nat) (P : List Nat) (R : List Nat) (v : Int) : Prop where
  b : Below C w w'
  r : (v = -1 ∧ (R.all fun x => !nr l one m s x) = true ∧ ∃ u, Mp C w' kp u P) ∨ ∃ (k x : Nat), v = k ∧ R[k]? = some x ∧ ((R.take k).all fun x => !nr l one m s x) = true ∧ nr l one m s x = true ∧ ∃ u, Mp C w' kp u (P ++ [pw l x])
set_option maxRecDepth 100000 in
set_option maxHeartbeats 4000000 in
theorem idx_walk (C : Nat) (kl ko km ks kp : Nat) (a : Option Addr) (n cap : Nat) (l : List Pt) (one : Pt) (m s : Nat) (u : Value) (P : List Nat) (g off N co : Nat) (D R : List Nat) (w : World) (h : Mc C w kl ko km ks a n cap l one m s) (q : Mp C w kp u P) (hPl : P.length ≤ 1048576)
    (hd : Di w g D) (gC : g < C) (hR : ∀ k x : Nat, R[k]? = some x → D[off + k]? = some x) (hl : R.length = N) (hm : ∀ x ∈ R, x < l.length) (hN : N ≤ co) (hc : co ≤ 9223372036854775807) :
    Calls Try.prog 70 #[.slice (some ⟨g, off, none⟩) N co, .func (.func 44) #[] #[.pointer (some ⟨kl, 0, none⟩), .pointer (some ⟨ko, 0, none⟩), .pointer (some ⟨km, 0, none⟩), .pointer (some ⟨ks, 0, none⟩), .pointer (some ⟨kp, 0, none⟩)]] w
      (fun e w' => ∃ v : Int, e = .returned (.int .i64 v) ∧ Ix C w w' kp l one m s P R v) := by
  have hcf : ∀ (args : Array Value) (w : World), (callFunc 44 args).run Try.prog w = .ok (.enter 44 args) w := fun _ _ => by kernel_rfl
  have H := Lib.hid h
  have Q := Lib.hid q
  have HD := Lib.hid hd
  have HR := Lib.hid (And.intro hR (And.intro hl hm))
  have kz := h.kz
  clear h q hd hR hl hm
  go_enter Try.func70, Try.ntmps70
  go_wp2_with fail
  go_loopw [8] (fun i wr => ∃ k : Nat, i = .int .i64 k ∧ k ≤ N ∧ ((R.take k).all fun x => !nr l one m s x) = true ∧ Below C w wr ∧ ∃ u, Mp C wr kp u P) (fun i _ => N - (intOf i).toNat)
  case atStart => exact ⟨0, rfl, by omega, rfl, Below.refl _ _, u, Q.out⟩
  case round =>
    obtain ⟨k, rfl, hk, hf, hb, u2, hq⟩ := hrel
    have HF := Lib.hid hf
    have HB := Lib.hid hb
    have Q2 := Lib.hid hq
    clear hf hb hq Q
    by_cases hlt : k < N
    · obtain ⟨x, hx⟩ : ∃ x, R[k]? = some x := ⟨_, List.getElem?_eq_getElem (by rw [HR.out.2.1]; exact hlt)⟩
      have c0 : wr.cell? ⟨g, off + k, none⟩ = some (.int .i64 (x : Int)) := (HB.out.cell (p := ⟨g, off + k, none⟩) gC).trans (HD.out.cell (HR.out.1 k x hx))
      have gl : g < wr.heap.size := Nat.lt_of_lt_of_le (Nat.lt_of_lt_of_le gC kz) HB.out.size
      have kn : (k : Int) < (N : Int) := by omega
      have hxl := HR.out.2.2 x (List.mem_of_getElem? hx)
      obtain ⟨B, hB⟩ : ∃ B, nearB m s (l.getD x pt0) one = B := ⟨_, rfl⟩
      have I := Lib.hid (near_walk C kl ko km ks kp a n cap l one m s u2 P x _ wr (H.out.low HB.out) Q2.out hPl B hB (getP hxl))
      have HX := Lib.hid hx
      have HBB := Lib.hid (show nr l one m s x = B from hB)
      clear hx hB
      go_wp2_with fail
      refine I.out.mono ?_
      rintro e w1 ⟨rfl, ⟨u3, q3⟩, b3⟩
      have Q3 := Lib.hid q3
      have B3 := Lib.hid (HB.out.trans b3)
      clear q3 b3 I c0 gl
      cases B with
      | true =>
        go_wp2_with fail
        go_ret
        exact ⟨(k : Int), rfl, B3.out, .inr ⟨k, x, rfl, HX.out, HF.out, HBB.out, u3, Q3.out⟩⟩
      | false =>
        have NX := Lib.hid (show ((R.take (k + 1)).all fun x => !nr l one m s x) = true by rw [List.take_add_one, HX.out]; simp only [Option.toList_some, List.all_append, HF.out]; simp [HBB.out])
        go_wp2_with fail
        go_roundw
        case rel => exact ⟨k + 1, by go_num, by omega, NX.out, B3.out, u3, Q3.out⟩
        case measure => simp only [intOf]; omega
    · have e : R.take k = R := List.take_of_length_le (by rw [HR.out.2.1]; omega)
      rw [e] at HF
      go_wp2_with fail
      go_ret
      exact ⟨-1, rfl, HB.out, .inl ⟨rfl, HF.out, u2, Q2.out⟩⟩
end Go.Proofs.Ytdngkeefbpffcaa
