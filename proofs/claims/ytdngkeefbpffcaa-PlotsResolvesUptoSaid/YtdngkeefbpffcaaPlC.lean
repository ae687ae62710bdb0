import Derived.Test.YtdngkeefbpffcaaPlB
set_option autoImplicit false
set_option linter.unusedVariables false
namespace Go.Proofs.Ytdngkeefbpffcaa
open Go.RowKit Lk Pl
/-- a block that holds words -/
def Uw (w : World) (g : Nat) (l : List Nat) : Prop := ∀ (j x : Nat), l[j]? = some x → w.cell? ⟨g, j, none⟩ = some (.int .u64 (x : Int))
theorem cmpL_drop {l m : List Nat} {k a b : Nat} (hl : l[k]? = some a) (hm : m[k]? = some b) : cmpL (l.drop k) (m.drop k) = if cmpN a b = 0 then cmpL (l.drop (k + 1)) (m.drop (k + 1)) else cmpN a b := by
  obtain ⟨h1, rfl⟩ := List.getElem?_eq_some_iff.1 hl
  obtain ⟨h2, rfl⟩ := List.getElem?_eq_some_iff.1 hm
  rw [List.drop_eq_getElem_cons h1, List.drop_eq_getElem_cons h2, cmpL]
set_option maxHeartbeats 2000000 in
theorem compare_walk (g g' : Nat) (l m : List Nat) (w : World) (hl : l.length = 5) (hm : m.length = 5) (lg : g < w.heap.size) (lg' : g' < w.heap.size) (hu : Uw w g l) (hu' : Uw w g' m) :
    Calls Try.prog 65 #[.slice (some ⟨g, 0, none⟩) 5 5, .slice (some ⟨g', 0, none⟩) 5 5, .func (.func 66) #[] #[]] w (fun e w' => e = .returned (.int .i64 (cmpL l m)) ∧ w = w') := by
  have hcf : ∀ (args : Array Value) (w : World), (callFunc 66 args).run Try.prog w = .ok (.enter 66 args) w := fun _ _ => by kernel_rfl
  have U := Lib.hid (And.intro hu hu')
  have HL := Lib.hid (And.intro hl hm)
  clear hu hu' hl hm
  go_enter Try.func65, Try.ntmps65
  go_wp2_with fail
  go_loopw [13] (fun i wr => ∃ k : Nat, i = .int .i64 k ∧ k ≤ 5 ∧ cmpL (l.drop k) (m.drop k) = cmpL l m ∧ w = wr) (fun i _ => 5 - (intOf i).toNat)
  case atStart => exact ⟨0, rfl, by omega, rfl, rfl⟩
  case round =>
    obtain ⟨k, rfl, hk, hf, rfl⟩ := hrel
    have HF := Lib.hid hf
    clear hf
    by_cases hlt : k < 5
    · obtain ⟨a, ha⟩ : ∃ a, l[k]? = some a := ⟨_, List.getElem?_eq_getElem (by rw [HL.out.1]; exact hlt)⟩
      obtain ⟨b, hb⟩ : ∃ b, m[k]? = some b := ⟨_, List.getElem?_eq_getElem (by rw [HL.out.2]; exact hlt)⟩
      have c0 := U.out.1 k a ha
      have c1 := U.out.2 k b hb
      have ST := Lib.hid (cmpL_drop ha hb)
      have k5 : (k : Int) < 5 := by omega
      clear ha hb
      go_wp2_with fail
      refine (cmp_walk a b _).mono ?_
      rintro e w1 ⟨rfl, rfl⟩
      by_cases h0 : cmpN a b = 0
      · have NX := Lib.hid (show cmpL (l.drop (k + 1)) (m.drop (k + 1)) = cmpL l m by rw [← HF.out, ST.out, if_pos h0])
        rw [h0]
        go_wp2_with fail
        go_roundw
        case rel => exact ⟨k + 1, by go_num, by omega, NX.out, trivial⟩
        case measure => simp only [intOf]; omega
      · have NX := Lib.hid (show cmpN a b = cmpL l m by rw [← HF.out, ST.out, if_neg h0])
        have hb : (cmpN a b != 0) = true := by rw [bne_iff_ne]; exact h0
        generalize cmpN a b = C at NX hb h0 ⊢
        go_wp2_with fail
        go_ret
        exact ⟨by rw [← NX.out]; rfl, rfl⟩
    · have e := Lib.hid (show cmpL l m = 0 by
        rw [← HF.out, List.drop_eq_nil_of_le (by rw [HL.out.1]; omega)]; cases m.drop k <;> rfl)
      go_wp2_with fail
      go_ret
      exact ⟨by rw [e.out]; rfl, rfl⟩
end Go.Proofs.Ytdngkeefbpffcaa
