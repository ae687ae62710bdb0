import Derived.Test.YthdpkmdkoldneaaNsY
set_option autoImplicit false
set_option linter.unusedVariables false
namespace Go.Proofs.Ythdpkmdkoldneaa
open Go.RowKit Lk
theorem grown_below {w w' w'' : World} {B n : Nat} {v : Value} {xs : List Value} (h : Below B w w') (g : w'.grownBy w'' v.ownBlock) (hv : w'.ownsRow B 54 2 v n xs) (hB : B ≤ w'.heap.size) : Below B w w'' :=
  h.trans ⟨g.os, g.tape, g.output, g.size, fun k hk => g.block k (by omega) (fun e => by have := (hv.lt k e.symm).1; omega)⟩
theorem owns_below {w w' : World} {B n : Nat} {v : Value} {xs : List Value} (h : w.ownsRow B 54 2 v n xs) (b : Below w.heap.size w w') : w'.ownsRow B 54 2 v n xs :=
  h.kept (row := none) ⟨b.os, b.tape, b.output, b.size, fun k hk _ => b.block k hk⟩ (by cases hv : v.ownBlock <;> simp)
structure TN (f : FuncId) (args : Array Value) (u : Value) (w : World) : Prop where
  a : False
theorem bothG_slice {P : Program} {W : World} {T : FuncId → Array Value → Value → World → Prop} {K : Kont} {a : Act} {F : World → Prop} {o : Oper} {ob : Obj} {l c : Nat} (h : ∀ w', (execOp a.eval o).run P w' = .ok (.value (.slice (some ⟨w'.heap.size, 0, none⟩) l c)) (w'.alloc ob))
    (hk : ∀ n x, W.heap.size ≤ n → n < x.heap.size → x.heap[n]? = some ob → K (a.put o.dst (.slice (some ⟨n, 0, none⟩) l c)) (And1 F x)) : bothG P W T o a F K := by
  refine bothG_values (S := fun u x => ∃ n, u = .slice (some ⟨n, 0, none⟩) l c ∧ W.heap.size ≤ n ∧ n < x.heap.size ∧ x.heap[n]? = some ob) ?_ (fun u x ⟨n, hu, h1, h2, h3⟩ => hu ▸ hk n x h1 h2 h3)
  intro w hw
  refine ⟨_, _, h w, ⟨_, rfl, hw.size, by simp, ?_⟩, (Below.refl _ w).alloc (Nat.le_refl _) ob⟩
  show (w.heap.push ob)[w.heap.size]? = some ob
  simp
theorem row_cells {w : World} {g x y : Nat} (hn : w.heap[g]? = some (.cells #[Value.float FloatKind.f64 x, Value.float FloatKind.f64 y] 54 (0, 0))) : ∀ (j : Nat) (u : Value), [Value.float .f64 x, Value.float .f64 y][j]? = some u → w.cell? ((⟨g, 0, none⟩ : Addr).add j) = some u := by
  intro j u h
  have ha : (⟨g, 0, none⟩ : Addr).add j = ⟨g, j, none⟩ := by unfold Addr.add; split <;> simp_all
  rw [ha, cell_of_heap hn j]
  match j, h with
  | 0, h => exact h
  | 1, h => exact h
theorem of_nil (w : World) : Calls Try.prog 31 #[.slice none 0 0] w (fun e w' => e = .returned (.slice none 0 0) ∧ w = w') := by
  go_enter Try.func31, Try.ntmps31
  go_wp2_with fail
  go_loopw [3, 4] (fun v i wr => v = .slice none 0 0 ∧ i = .int .i64 0 ∧ wr = w) (fun _ _ _ => 0)
  case atStart => exact ⟨rfl, rfl, rfl⟩
  case round =>
    obtain ⟨rfl, rfl, rfl⟩ := hrel
    go_wp2_with fail
    go_ret
    exact ⟨rfl, rfl⟩
set_option maxHeartbeats 4000000 in
theorem of_walk (g n : Nat) (f : Nat → Nat × Nat) (w : World) (hn : n ≤ 16384) (hr : w.rowIs g 40 n (cxv f)) : Calls Try.prog 31 #[.slice (some ⟨g, 0, none⟩) n n] w
    (fun e w' => ∃ v, e = .returned v ∧ w'.ownsRow w.heap.size 54 2 v n (flat f n) ∧ Below w.heap.size w w') := by
  obtain ⟨I, hi, hz, hsz, hby⟩ := info_parts cl_info
  have hlt := hr.lt
  go_enter Try.func31, Try.ntmps31
  go_wp2_with fail
  go_loopw [3, 4] (fun v i wr => ∃ k : Nat, k ≤ n ∧ i = .int .i64 k ∧ wr.ownsRow w.heap.size 54 2 v k (flat f k) ∧ Below w.heap.size w wr) (fun _ i _ => n - (intOf i).toNat)
  case atStart => exact ⟨0, Nat.zero_le _, rfl, World.ownsRow_nil _ _ _ _, Below.refl _ _⟩
  case round =>
    obtain ⟨k, hk, rfl, ho, hB⟩ := hrel
    by_cases hkn : k < n
    · have hk64 : (k : Int) < n := by omega
      have zw := hB.size
      have cR : wr.cell? ⟨g, k, none⟩ = some (.complex .f64 (f k).1 (f k).2) := (hB.cell (p := ⟨g, k, none⟩) hlt).trans (hr.cell hkn)
      have hgl : g < wr.heap.size := by omega
      go_wp2_with fail
      refine wp_region_G_tail 13 TN (by kernel_rfl) (by kernel_rfl) ?_
      simp only [List.take, List.drop]
      repeat' (refine wpG_step' (fun K hA hK => ?_); go_simp; first | (refine bothG_value hA (v := ?_) (fun w' hw' => ?_) ?_; rotate_left; (· go_simp; rfl); (refine hK _ _ ?_; clear hK hA K)) | (refine bothG_slice (ob := ?_) (l := 1) (c := 1) (fun w' => ?_) ?_; rotate_left; (· go_simp; rfl); (intro m x hm1 hm2 hm3; refine hK _ _ ?_; clear hK hA K)))
      refine wpG_nil ?_
      intro w2 hb2 hF
      have hx2 : Ext x w2 := hF.2
      have hm4 := (hx2.block m hm2).trans hm3
      have ho2 := owns_below ho hb2
      have hB2 := hB.trans (hb2.mono zw)
      have zw2 := hb2.size
      clear hF hx2 hm2 hm3 ho hb2 hB
      go_wp2_with (refine wpList_append_own _ rfl (.tmp 11) (.tmp 23) 58 rfl w.heap.size 54 I _ 2 16 u58 hi hz hsz hby rfl (by decide) _ k (flat f k) rfl ho2 ⟨m, 0, none⟩ 1 1 [.float .f64 (f k).1, .float .f64 (f k).2] rfl rfl (row_cells hm4) (floats_one _ _) (by simp only [maxLen]; omega) (by omega) (by omega) ?_; intro v' w3 ow gr _)
      exact ⟨⟨k + 1, by omega, by go_num, ow, grown_below hB2 gr ho2 (by omega)⟩, by simp [intOf]; omega⟩
    · obtain rfl : k = n := by omega
      go_wp2_with fail
      go_ret
      exact ⟨_, rfl, ho, hB⟩
end Go.Proofs.Ythdpkmdkoldneaa
