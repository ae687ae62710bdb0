import Derived.Test.YthdpkmdkoldneaaNsX
import Derived.OwnWalk
set_option autoImplicit false
set_option linter.unusedVariables false
namespace Go.Proofs.Ythdpkmdkoldneaa
open Go.RowKit Lk
theorem u58 : Try.prog.underlying 58 = some (.slice 54) := by kernel_rfl
theorem cl_info : (Try.prog.info? 54).map (fun i => (i.zero, i.size, i.bytes)) = some (some (.agg #[.float .f64 0, .float .f64 0]), 2, 16) := by kernel_rfl
/-- so many samples, float by float -/
def flat (f : Nat → Nat × Nat) : Nat → List Value
  | 0 => []
  | k + 1 => flat f k ++ [.float .f64 (f k).1, .float .f64 (f k).2]
theorem flat_length (f : Nat → Nat × Nat) : ∀ k, (flat f k).length = k * 2
  | 0 => rfl
  | k + 1 => by simp [flat, flat_length f k]; omega
theorem flat_congr {f g : Nat → Nat × Nat} : ∀ {k}, (∀ j, j < k → f j = g j) → flat f k = flat g k
  | 0, _ => rfl
  | k + 1, h => by simp only [flat]; rw [flat_congr (fun j hj => h j (by omega)), h k (by omega)]
theorem flat_put (f : Nat → Nat × Nat) (k x y : Nat) : flat f k ++ [.float .f64 x, .float .f64 y] = flat (fun j => if j = k then (x, y) else f j) (k + 1) := by
  simp only [flat, if_true]
  rw [flat_congr (g := fun j => if j = k then (x, y) else f j) (f := f) (k := k) (fun j hj => by rw [if_neg (by omega)])]
theorem flat_at (f : Nat → Nat × Nat) : ∀ {k j}, j < k → (flat f k)[j * 2]? = some (.float .f64 (f j).1) ∧ (flat f k)[j * 2 + 1]? = some (.float .f64 (f j).2)
  | 0, _, h => by omega
  | k + 1, j, h => by
    have hl := flat_length f k
    simp only [flat]
    by_cases hj : j < k
    · have := flat_at f hj
      rw [List.getElem?_append_left (by omega), List.getElem?_append_left (by omega)]
      exact this
    · obtain rfl : j = k := by omega
      rw [List.getElem?_append_right (by omega), List.getElem?_append_right (by omega), hl]
      simp
theorem One.grown {b : Nat} {w w' : World} (h : One b w w') : w.grownBy w' (some b) := ⟨h.os, h.tape, h.output, h.size, fun k hk hn => h.block k hk (fun e => hn (by rw [e]))⟩
theorem owns_one {w w' : World} {b base n : Nat} {v : Value} {xs : List Value} (h : w.ownsRow base 54 2 v n xs) (o : One b w w') (hb : b < base) : w'.ownsRow base 54 2 v n xs :=
  h.kept o.grown (by
    by_cases hv : v.ownBlock = none
    · exact .inl hv
    · right
      intro e
      have := (h.lt b e).1
      omega)
theorem One.grownNew {b B : Nat} {w w' w'' : World} {v : Value} {n : Nat} {xs : List Value} (h : One b w w') (g : w'.grownBy w'' v.ownBlock) (hv : w'.ownsRow B 54 2 v n xs) (hB : w.heap.size ≤ B) : One b w w'' :=
  ⟨g.os.trans h.os, g.tape.trans h.tape, g.output.trans h.output, Nat.le_trans h.size g.size, fun k hk hn => (g.block k (Nat.lt_of_lt_of_le hk h.size) (fun e => by
    have := (hv.lt k e.symm).1
    omega)).trans (h.block k hk hn)⟩
theorem BlR.grown {w w' : World} {b s base n : Nat} {v : Value} {xs : List Value} (h : BlR w b s) (g : w.grownBy w' v.ownBlock) (hv : w.ownsRow base 54 2 v n xs) (hb : b < base) : BlR w' b s :=
  (g.block b h.lt (fun e => by have := (hv.lt b e.symm).1; omega)).trans h
theorem new_cells (w : World) (x y : Nat) : ∀ (j : Nat) (u : Value), [Value.float .f64 x, Value.float .f64 y][j]? = some u → (w.alloc (Obj.cells #[Value.float FloatKind.f64 x, Value.float FloatKind.f64 y] 54)).cell? ((⟨w.heap.size, 0, none⟩ : Addr).add j) = some u := by
  intro j u h
  have hn : (w.alloc (Obj.cells #[Value.float FloatKind.f64 x, Value.float FloatKind.f64 y] 54)).heap[w.heap.size]? = some (.cells #[Value.float FloatKind.f64 x, Value.float FloatKind.f64 y] 54 (0, 0)) := by
    show (w.heap.push _)[w.heap.size]? = _; simp
  have ha : (⟨w.heap.size, 0, none⟩ : Addr).add j = ⟨w.heap.size, j, none⟩ := by unfold Addr.add; split <;> simp_all
  rw [ha, cell_of_heap hn j]
  match j, h with
  | 0, h => exact h
  | 1, h => exact h
theorem floats_one (x y : Nat) : ∀ u ∈ [Value.float .f64 x, Value.float .f64 y], u.oneCell' = true := by
  intro u hu
  simp only [List.mem_cons, List.not_mem_nil, or_false] at hu
  rcases hu with rfl | rfl <;> rfl
set_option maxHeartbeats 4000000 in
theorem rrow_walk (s b wd n : Nat) (w : World) (hs : s < 2 ^ 64) (hn : n ≤ 16384) (hb : BlR w b s) : Calls Try.prog 32 #[.pointer (some ⟨b, 0, none⟩), .int .i64 n, .float .f64 wd] w
    (fun e w' => ∃ v f, e = .returned v ∧ w'.ownsRow w.heap.size 54 2 v n (flat f n) ∧ Rw f s wd n ∧ BlR w' b (skp s (24 * n)) ∧ One b w w') := by
  obtain ⟨I, hi, hz, hsz, hby⟩ := info_parts cl_info
  have hlt0 := Lib.hid hb.lt
  go_enter Try.func32, Try.ntmps32
  go_wp2_with fail
  go_loopw [7, 8] (fun v i wr => ∃ (k : Nat) (f : Nat → Nat × Nat), k ≤ n ∧ i = .int .i64 k ∧ wr.ownsRow w.heap.size 54 2 v k (flat f k) ∧ Rw f s wd k ∧ BlR wr b (skp s (24 * k)) ∧ One b w wr) (fun _ i _ => n - (intOf i).toNat)
  case atStart => exact ⟨0, fun _ => (0, 0), Nat.zero_le _, rfl, World.ownsRow_nil _ _ _ _, fun j hj => absurd hj (Nat.not_lt_zero _), (by rw [show skp s (24 * 0) = s by unfold skp; omega]; exact hb), One.refl _ _⟩
  case round =>
    obtain ⟨k, f, hk, rfl, hr, hf, hB, hO⟩ := hrel
    have HF := Lib.hid hf
    clear hf hb
    by_cases hlt : k < n
    · have hk64 : (k : Int) < n := by omega
      go_wp2_with fail
      refine (rpair_walk (skp s (24 * k)) b wd _ (skp_lt' _ _) hB).mono ?_; rintro e w1 ⟨x, y, rfl, hx, hy, h1, o1⟩
      have hr1 := owns_one hr o1 hlt0.out
      have hO1 := hO.trans o1
      clear hr o1 hO hB
      have hz1 := hO1.size
      go_wp2_with (refine wpList_append_own _ rfl (.tmp 24) (.tmp 28) 58 rfl w.heap.size 54 I _ 2 16 u58 hi hz hsz hby rfl (by decide) _ k (flat f k) rfl (hr1.alloc _) ⟨w1.heap.size, 0, none⟩ 1 1 [.float .f64 x, .float .f64 y] rfl rfl (new_cells w1 x y) (floats_one x y) (by simp only [maxLen]; omega) (by omega) (by simp; omega) ?_; intro v' w2 ow gr _)
      refine ⟨⟨k + 1, fun j => if j = k then (x, y) else f j, by omega, by go_num, by rw [← flat_put]; exact ow, fun j hj => ?_, ?_, ((hO1.trans (One.new _ _)).grownNew gr (hr1.alloc _) (Nat.le_refl _))⟩, by simp [intOf]; omega⟩
      · show Is (if j = k then (x, y) else f j).1 _ ∧ Is (if j = k then (x, y) else f j).2 _
        by_cases h : j = k
        · rw [if_pos h, h]; exact ⟨hx, hy⟩
        · rw [if_neg h]; exact HF.out j (by omega)
      · have h2 := (h1.stay ((Below.refl _ _).alloc (Nat.le_refl _) _)).grown gr (hr1.alloc _) hlt0.out
        rw [skp_skp] at h2
        exact h2
    · obtain rfl : k = n := by omega
      go_wp2_with fail
      go_ret
      exact ⟨_, f, rfl, hr, HF.out, hB, hO⟩
theorem rrow_bad (s b wd : Nat) (n : Int) (w : World) (hn : n < 0 ∨ 16384 < n) (hb : BlR w b s) : Calls Try.prog 32 #[.pointer (some ⟨b, 0, none⟩), .int .i64 n, .float .f64 wd] w (fun e w' => e = .returned (.slice none 0 0) ∧ w = w') := by
  by_cases h : n < 0
  · go_enter Try.func32, Try.ntmps32
    go_wp2
    go_ret
    exact ⟨rfl, rfl⟩
  · have h2 : 16384 < n := by omega
    go_enter Try.func32, Try.ntmps32
    go_wp2
    go_ret
    exact ⟨rfl, rfl⟩
theorem rrow_nil (n : Int) (wd : Nat) (w : World) : Calls Try.prog 32 #[.pointer none, .int .i64 n, .float .f64 wd] w (fun e w' => e = .returned (.slice none 0 0) ∧ w = w') := by
  go_enter Try.func32, Try.ntmps32
  go_wp2
  go_ret
  exact ⟨rfl, rfl⟩
end Go.Proofs.Ythdpkmdkoldneaa
