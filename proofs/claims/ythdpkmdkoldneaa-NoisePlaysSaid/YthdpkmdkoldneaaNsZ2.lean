import Derived.Test.YthdpkmdkoldneaaNsZ
set_option autoImplicit false
set_option linter.unusedVariables false
namespace Go.Proofs.Ythdpkmdkoldneaa
open Go.RowKit Lk
structure TSL (f : FuncId) (args : Array Value) (u : Value) (w : World) : Prop where
  a : f = 27 → u = .bool true
theorem tsl_a {x y x' y' : Nat} (h1 : sameF x x' = true) (h2 : sameF y y' = true) (w : World) : Calls Try.prog 27 #[.agg #[.float .f64 x, .float .f64 y], .agg #[.float .f64 x', .float .f64 y']] w (fun e' w'' => ∃ u, e' = .returned u ∧ TSL 27 #[.agg #[.float .f64 x, .float .f64 y], .agg #[.float .f64 x', .float .f64 y']] u w'' ∧ Ext w w'') :=
  (same_walk x y x' y' w).mono fun e' w' ⟨he, hb⟩ => ⟨_, he, ⟨fun _ => by rw [h1, h2]; rfl⟩, hb⟩
/-- a list of so many samples in memory, or none -/
def Lst (w : World) (v : Value) (n : Nat) (f : Nat → Nat × Nat) : Prop :=
  (v = .slice none 0 0 ∧ n = 0) ∨ ∃ g cap, v = .slice (some ⟨g, 0, none⟩) n cap ∧ n ≤ cap ∧ g < w.heap.size ∧ ∀ j, j < n → w.cell? ⟨g, j * 2, none⟩ = some (.float .f64 (f j).1) ∧ w.cell? ⟨g, j * 2 + 1, none⟩ = some (.float .f64 (f j).2)
theorem lst_of {w : World} {B n : Nat} {v : Value} {f : Nat → Nat × Nat} (h : w.ownsRow B 54 2 v n (flat f n)) : Lst w v n f := by
  have h' := h
  rcases h.2 with ⟨rfl, rfl⟩ | ⟨g, cap, cur, rfl, _, hg, hn, _⟩
  · exact .inl ⟨rfl, rfl⟩
  · refine .inr ⟨g, cap, rfl, hn, (Array.getElem?_eq_some_iff.1 hg).1, fun j hj => ?_⟩
    obtain ⟨a, b⟩ := flat_at f hj
    exact ⟨(h'.cellAt (j * 2) (by omega)).trans a, (h'.cellAt (j * 2 + 1) (by omega)).trans b⟩
theorem Lst.keep {w w' : World} {n : Nat} {v : Value} {f : Nat → Nat × Nat} (h : Lst w v n f) (b : Below w.heap.size w w') : Lst w' v n f := by
  rcases h with h | ⟨g, cap, rfl, hn, hg, hc⟩
  · exact .inl h
  · exact .inr ⟨g, cap, rfl, hn, by have := b.size; omega, fun j hj => ⟨(b.cell (p := ⟨g, j * 2, none⟩) hg).trans (hc j hj).1, (b.cell (p := ⟨g, j * 2 + 1, none⟩) hg).trans (hc j hj).2⟩⟩
set_option maxHeartbeats 4000000 in
theorem samelist_walk (v1 v2 : Value) (n : Nat) (f h : Nat → Nat × Nat) (w : World) (hn : n ≤ 16384) (l1 : Lst w v1 n f) (l2 : Lst w v2 n h) (hs : ∀ j, j < n → sameF (f j).1 (h j).1 = true ∧ sameF (f j).2 (h j).2 = true) :
    Calls Try.prog 30 #[v1, v2] w (fun e w' => e = .returned (.bool true) ∧ Below w.heap.size w w') := by
  by_cases h0 : n = 0
  · subst h0
    rcases l1 with ⟨rfl, _⟩ | ⟨g1, c1, rfl, _, _, _⟩ <;> rcases l2 with ⟨rfl, _⟩ | ⟨g2, c2, rfl, _, _, _⟩
    all_goals
      go_enter Try.func30, Try.ntmps30
      go_wp2_with fail
      go_loopw [5] (fun i wr => i = .int .i64 0 ∧ wr = w) (fun _ _ => 0)
      case atStart => exact ⟨rfl, rfl⟩
      case round =>
        obtain ⟨rfl, rfl⟩ := hrel
        go_wp2_with fail
        go_ret
        exact ⟨rfl, Below.refl _ _⟩
  · rcases l1 with ⟨_, h⟩ | ⟨g1, c1, rfl, m1, k1, d1⟩
    · exact absurd h h0
    · rcases l2 with ⟨_, h⟩ | ⟨g2, c2, rfl, m2, k2, d2⟩
      · exact absurd h h0
      · go_enter Try.func30, Try.ntmps30
        go_wp2_with fail
        go_loopw [5] (fun i wr => ∃ k : Nat, k ≤ n ∧ i = .int .i64 k ∧ Below w.heap.size w wr) (fun i _ => n - (intOf i).toNat)
        case atStart => exact ⟨0, Nat.zero_le _, rfl, Below.refl _ _⟩
        case round =>
          obtain ⟨k, hk, rfl, hB⟩ := hrel
          by_cases hkn : k < n
          · have hk64 : (k : Int) < n := by omega
            have zw := hB.size
            obtain ⟨p1, p2⟩ := d1 k hkn
            obtain ⟨q1, q2⟩ := d2 k hkn
            obtain ⟨s1, s2⟩ := hs k hkn
            have P1 : wr.cell? ⟨g1, k * 2, none⟩ = _ := (hB.cell (p := ⟨g1, k * 2, none⟩) k1).trans p1
            have P2 : wr.cell? ⟨g1, k * 2 + 1, none⟩ = _ := (hB.cell (p := ⟨g1, k * 2 + 1, none⟩) k1).trans p2
            have Q1 : wr.cell? ⟨g2, k * 2, none⟩ = _ := (hB.cell (p := ⟨g2, k * 2, none⟩) k2).trans q1
            have Q2 : wr.cell? ⟨g2, k * 2 + 1, none⟩ = _ := (hB.cell (p := ⟨g2, k * 2 + 1, none⟩) k2).trans q2
            have z1 : g1 < wr.heap.size := by omega
            have z2 : g2 < wr.heap.size := by omega
            clear p1 p2 q1 q2
            go_wp2_with fail
            refine wp_region_G TSL (by kernel_rfl) (by kernel_rfl) ?_
            repeat' (refine wpG_step' (fun K hA hK => ?_); go_simp; first | (refine bothG_value hA (v := ?_) (fun w' hw' => ?_) ?_; rotate_left; (· go_simp; rfl); (refine hK _ _ ?_; clear hK hA K)) | (refine bothG_call (f := 27) (args := ?_) (fun w' => ?_) (fun w' _ => ?_) ?_; rotate_left; (· go_simp; rfl); (· exact tsl_a s1 s2 _); (intro u x hu; obtain rfl := hu.a rfl; clear hu; refine hK _ _ ?_; clear hK hA K)))
            refine wpG_nil ?_
            intro w2 hb2 hF
            have hB2 := hB.trans (hb2.mono zw)
            clear hF hb2 hB P1 P2 Q1 Q2
            go_wp2_with fail
            go_roundw
            case rel => exact ⟨k + 1, by omega, by go_num, hB2⟩
            case measure => simp [intOf]; omega
          · obtain rfl : k = n := by omega
            go_wp2_with fail
            go_ret
            exact ⟨rfl, hB⟩
end Go.Proofs.Ythdpkmdkoldneaa
