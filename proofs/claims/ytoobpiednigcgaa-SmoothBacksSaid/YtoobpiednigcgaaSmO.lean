import Derived.Test.YtoobpiednigcgaaSmL
set_option autoImplicit false
set_option linter.unusedVariables false
namespace Go.Proofs.Ytoobpiednigcgaa
open Go.RowKit Lk
theorem Try.und23 : Try.prog.underlying 23 = some (.slice 24) := by kernel_rfl
theorem Try.und38 : Try.prog.underlying 38 = some (.slice 3) := by kernel_rfl
theorem Try.und22 : Try.prog.underlying 22 = some (.slice 27) := by kernel_rfl
theorem flt_info : (Try.prog.info? 24).map (fun i => (i.zero, i.size, i.bytes)) = some (some (.float .f64 0), 1, 8) := by kernel_rfl
theorem int_info : (Try.prog.info? 3).map (fun i => (i.zero, i.size, i.bytes)) = some (some (.int .i64 0), 1, 8) := by kernel_rfl
theorem st_info : (Try.prog.info? 27).map (fun i => (i.zero, i.size, i.bytes)) = some (some (.agg #[.float .f64 0, .float .f64 0, .float .f64 0, .float .f64 0, .float .f64 0]), 5, 40) := by kernel_rfl
def fls (l : List Nat) : List Value := l.map (Value.float .f64)
def nts (l : List Int) : List Value := l.map (Value.int .i64)
theorem ownsB {w w' : World} {B n t c : Nat} {v : Value} {xs : List Value} (h : w.ownsRow B t c v n xs) (b : Below w.heap.size w w') : w'.ownsRow B t c v n xs :=
  h.kept (row := none) ⟨b.os, b.tape, b.output, b.size, fun k hk _ => b.block k hk⟩ (by cases hv : v.ownBlock <;> simp)
theorem ownsD {w : World} {B n t c : Nat} {v : Value} {xs : List Value} (h : w.ownsRow B t c v n xs) (k : Nat) : (w.drewN k).ownsRow B t c v n xs := h
theorem grownB {w w' w'' : World} {B n t c : Nat} {v : Value} {xs : List Value} (h : Below B w w') (g : w'.grownBy w'' v.ownBlock) (hv : w'.ownsRow B t c v n xs) (hB : B ≤ w'.heap.size) : Below B w w'' :=
  h.trans ⟨g.os, g.tape, g.output, g.size, fun k hk => g.block k (by omega) (fun e => by have := (hv.lt k e.symm).1; omega)⟩
theorem addr_add (g j : Nat) : (⟨g, 0, none⟩ : Addr).add j = ⟨g, j, none⟩ := by unfold Addr.add; split <;> simp_all
theorem new1 (w : World) (u : Value) (t : TypeId) (n : Nat) : ∀ (j : Nat) (x : Value), [u][j]? = some x → ((w.alloc (.cells #[u] t)).drewN n).cell? ((⟨w.heap.size, 0, none⟩ : Addr).add j) = some x := by
  intro j x h
  rw [addr_add]
  show (w.alloc (.cells #[u] t)).cell? ⟨w.heap.size, j, none⟩ = some x
  rw [cell_of_heap (Deep.blk_alloc_new _ _) j]
  match j, h with
  | 0, h => exact h
theorem one1 {u : Value} (h : u.oneCell' = true) : ∀ x ∈ [u], x.oneCell' = true := by
  intro x hx; rw [List.mem_singleton.1 hx]; exact h
theorem own_fs {w : World} {B n : Nat} {v : Value} {l : List Nat} (h : w.ownsRow B 24 1 v n (fls l)) (hl : ∀ x ∈ l, x < 2 ^ 64) : ∃ a cap, v = .slice a n cap ∧ Fs w a n cap l := by
  have hlen : l.length = n := by have := h.1; simpa [fls] using this
  rcases h.2 with ⟨rfl, rfl⟩ | ⟨g, cap, cur, rfl, _, hg, hc, hm, hs, ht⟩
  · exact ⟨none, 0, rfl, hlen, Nat.le_refl _, by omega, hl, .inl rfl, fun _ => rfl⟩
  · refine ⟨some ⟨g, 0, none⟩, cap, rfl, hlen, hc, by unfold maxLen at hm; omega, hl, .inr ⟨g, 0, rfl, (Array.getElem?_eq_some_iff.1 hg).1, fun j hj => ?_⟩, fun h => by cases h⟩
    rw [h.cellAt (0 + j) (by omega)]
    simp [fls, hj]
theorem fls_snoc (l : List Nat) (x : Nat) : fls (l ++ [x]) = fls l ++ [.float .f64 x] := by simp [fls]
theorem nts_snoc (l : List Int) (x : Int) : nts (l ++ [x]) = nts l ++ [.int .i64 x] := by simp [nts]
/-- pointwise the same -/
def Pw (A L : List Nat) : Prop := ∀ (j y Y : Nat), A[j]? = some y → L[j]? = some Y → Is y Y
theorem Pw.refl (l : List Nat) : Pw l l := fun j y Y h h' => by rw [h] at h'; cases h'; exact Is.refl _
theorem Pw.snoc {A L : List Nat} {k x X : Nat} (h : Pw A L) (hk : A.length = k) (hX : L[k]? = some X) (hx : Is x X) : Pw (A ++ [x]) L := by
  intro j y Y h1 h2
  by_cases hj : j < A.length
  · rw [List.getElem?_append_left hj] at h1; exact h _ _ _ h1 h2
  · rw [List.getElem?_append_right (by omega)] at h1
    have : j - A.length = 0 := by
      have := (List.getElem?_eq_some_iff.1 h1).1
      simpa using this
    obtain rfl : j = k := by omega
    rw [this] at h1
    cases h1
    rw [hX] at h2; cases h2; exact hx
theorem mem_snoc {l : List Nat} {x : Nat} (h : ∀ z ∈ l, z < 2 ^ 64) (hx : x < 2 ^ 64) : ∀ z ∈ l ++ [x], z < 2 ^ 64 := by
  intro z hz; rcases List.mem_append.1 hz with h' | h'
  · exact h z h'
  · rw [List.mem_singleton.1 h']; exact hx
/-- the document's two lists of products -/
structure RL (w wr : World) (v1 v2 : Value) (k j : Nat) (A B t x : List Nat) : Prop where
  o1 : wr.ownsRow w.heap.size 24 1 v1 k (fls A)
  o2 : wr.ownsRow w.heap.size 24 1 v2 j (fls B)
  ne : v1.ownBlock = none ∨ v1.ownBlock ≠ v2.ownBlock
  l1 : ∀ z ∈ A, z < 2 ^ 64
  l2 : ∀ z ∈ B, z < 2 ^ 64
  e1 : Pw A (sqL t)
  e2 : Pw B (prL t x)
  hb : Below w.heap.size w wr
theorem RL.n1 {w wr : World} {v1 v2 : Value} {k j : Nat} {A B t x : List Nat} (h : RL w wr v1 v2 k j A B t x) : A.length = k := by have := h.o1.1; simpa [fls] using this
theorem RL.n2 {w wr : World} {v1 v2 : Value} {k j : Nat} {A B t x : List Nat} (h : RL w wr v1 v2 k j A B t x) : B.length = j := by have := h.o2.1; simpa [fls] using this
theorem ne_none {a b : Option Nat} (h : a = none ∨ a ≠ b) : b = none ∨ b ≠ a := by
  cases b with
  | none => exact .inl rfl
  | some y => right; rcases h with rfl | h; exact (fun h => by cases h); exact fun e => h e.symm
theorem RL.app1 {w wr w5 : World} {v1 v2 v5 : Value} {k j n v Y : Nat} {A B t x : List Nat} {o : Obj} (h : RL w wr v1 v2 k j A B t x) (ow : w5.ownsRow w.heap.size 24 1 v5 (k + 1) (fls A ++ [.float .f64 v]))
    (gr : ((wr.alloc o).drewN n).grownBy w5 v1.ownBlock) (at5 : v5.ownBlock = v1.ownBlock ∨ v5.ownBlock = some ((wr.alloc o).drewN n).heap.size) (lv : v < 2 ^ 64) (hY : (sqL t)[k]? = some Y) (hv : Is v Y) : RL w w5 v5 v2 (k + 1) j (A ++ [v]) B t x := by
  have z : w.heap.size ≤ wr.heap.size := h.hb.size
  refine ⟨by rw [fls_snoc]; exact ow, (ownsD (h.o2.alloc o) n).kept gr (ne_none h.ne), ?_, mem_snoc h.l1 lv, h.l2, h.e1.snoc h.n1 hY hv, h.e2, ?_⟩
  · rcases at5 with e | e
    · rw [e]; exact h.ne
    · right; rw [e]; intro e2
      have := (h.o2.lt _ e2.symm).2
      simp [World.drewN] at this
      omega
  · exact grownB (below_drewN (h.hb.alloc z o) n) gr (ownsD (h.o1.alloc o) n) (by simp [World.drewN]; omega)
theorem RL.app2 {w wr w5 : World} {v1 v2 v5 : Value} {k j n v Y : Nat} {A B t x : List Nat} {o : Obj} (h : RL w wr v1 v2 k j A B t x) (ow : w5.ownsRow w.heap.size 24 1 v5 (j + 1) (fls B ++ [.float .f64 v]))
    (gr : ((wr.alloc o).drewN n).grownBy w5 v2.ownBlock) (at5 : v5.ownBlock = v2.ownBlock ∨ v5.ownBlock = some ((wr.alloc o).drewN n).heap.size) (lv : v < 2 ^ 64) (hY : (prL t x)[j]? = some Y) (hv : Is v Y) : RL w w5 v1 v5 k (j + 1) A (B ++ [v]) t x := by
  have z : w.heap.size ≤ wr.heap.size := h.hb.size
  refine ⟨(ownsD (h.o1.alloc o) n).kept gr h.ne, by rw [fls_snoc]; exact ow, ?_, h.l1, mem_snoc h.l2 lv, h.e1, h.e2.snoc h.n2 hY hv, ?_⟩
  · rcases at5 with e | e
    · rw [e]; exact h.ne
    · by_cases h0 : v1.ownBlock = none
      · exact .inl h0
      · right; rw [e]; intro e2
        have := (h.o1.lt _ e2).2
        simp [World.drewN] at this
        omega
  · exact grownB (below_drewN (h.hb.alloc z o) n) gr (ownsD (h.o2.alloc o) n) (by simp [World.drewN]; omega)
theorem sqL_some {t : List Nat} {k z : Nat} (h : t[k]? = some z) : (sqL t)[k]? = some (fmul (fsub z (mean t)) (fsub z (mean t))) := by
  unfold sqL; rw [List.getElem?_map, h]; rfl
theorem prL_some {t x : List Nat} {k z z' : Nat} (h : t[k]? = some z) (h' : x[k]? = some z') : (prL t x)[k]? = some (fmul (fsub z (mean t)) (fsub z' (mean x))) := by
  unfold prL; rw [List.getElem?_map, (List.getElem?_zip_eq_some (z := (z, z'))).2 ⟨h, h'⟩]; rfl
end Go.Proofs.Ytoobpiednigcgaa
