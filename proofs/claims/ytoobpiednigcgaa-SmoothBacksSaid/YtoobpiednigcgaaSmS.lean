import Derived.Test.YtoobpiednigcgaaSmV3
import Derived.Test.YtoobpiednigcgaaSmD
set_option autoImplicit false
set_option linter.unusedVariables false
namespace Go.Proofs.Ytoobpiednigcgaa
open Go.RowKit Lk
set_option maxRecDepth 100000 in
theorem small_walk (n : Int) (b : Bool) (hb : b = decide (-1024 < n ∧ n < 1024)) (w : World) : Calls Try.prog 21 #[.int .i64 n] w (fun e w' => e = .returned (.bool b) ∧ w = w') := by
  by_cases h1 : -1024 < n
  · by_cases h2 : n < 1024
    · have e : b = true := by rw [hb]; exact decide_eq_true ⟨h1, h2⟩
      clear hb
      subst e
      go_enter Try.func21, Try.ntmps21
      go_wp2_with fail
      go_ret
      exact ⟨rfl, rfl⟩
    · have e : b = false := by rw [hb]; exact decide_eq_false (fun h => h2 h.2)
      clear hb
      subst e
      go_enter Try.func21, Try.ntmps21
      go_wp2_with fail
      go_ret
      exact ⟨rfl, rfl⟩
  · have e : b = false := by rw [hb]; exact decide_eq_false (fun h => h1 h.1)
    clear hb
    subst e
    go_enter Try.func21, Try.ntmps21
    go_wp2_with fail
    go_ret
    exact ⟨rfl, rfl⟩
/-- one float more; where it lies -/
theorem wpList_append_x_at {ops : Array Oper} {rest : List Oper} {o : Oper} {a : Act} {Q : Exit → Act → World → Prop} {w : World} (hgd : o.guard = none) (s x : Operand) (ho : o.op = .call { callee := .builtin .append, args := #[s, x], argTypes := #[23, 23] })
    (base : Nat) (v : Value) (n : Nat) (xs : List Value) (hs : a.eval s = v) (hown : w.ownsRow base 24 1 v n xs)
    {g c y : Nat} (hx : a.eval x = .slice (some ⟨g, 0, none⟩) 1 c) (hb : w.heap[g]? = some (.cells #[.float .f64 y] 24 (0, 0))) (h63 : n ≤ 4194304) (hbase : base ≤ w.heap.size)
    (h : ∀ g' c' w', w'.ownsRow base 24 1 (.slice (some ⟨g', 0, none⟩) (n + 1) c') (n + 1) (xs ++ [.float .f64 y]) → w.grownBy w' v.ownBlock → (v.ownBlock = some g' ∨ g' = w.heap.size) → wpList Try.prog ops Q rest (a.put o.dst (.slice (some ⟨g', 0, none⟩) (n + 1) c')) w') : wpList Try.prog ops Q (o :: rest) a w := by
  obtain ⟨J, ji, jz, jsz, jby⟩ := info_parts flt_info
  refine wpList_append_own_at _ hgd s x 23 ho base 24 J _ 1 8 Try.und23 ji jz jsz jby rfl (by decide) v n xs hs hown ⟨g, 0, none⟩ 1 c [.float .f64 y] hx rfl (one_cells hb) (one1 rfl) (by simp only [maxLen]; omega) (by omega) hbase (fun v' w' h1 h2 _ h4 => ?_)
  obtain ⟨a', c', rfl⟩ := own_form h1
  obtain ⟨g', rfl, _⟩ := own_some h1 (by omega)
  refine h g' c' w' h1 h2 ?_
  rcases h4 with h4 | h4
  · exact .inl h4.symm
  · right; exact Option.some.inj h4
theorem xor_top (x : Nat) (h : x < 2 ^ 64) : x ^^^ 2 ^ 63 = fneg x := by
  have h1 : (x ^^^ 2 ^ 63) % 2 ^ 63 = x % 2 ^ 63 := by rw [Nat.xor_mod_two_pow]; exact Nat.xor_zero _
  have h2 : (x ^^^ 2 ^ 63) / 2 ^ 63 = x / 2 ^ 63 ^^^ 1 := by
    rw [← Nat.shiftRight_eq_div_pow, Nat.shiftRight_xor_distrib, Nat.shiftRight_eq_div_pow, Nat.shiftRight_eq_div_pow]
  have h3 : x / 2 ^ 63 < 2 := by omega
  have h4 := Nat.div_add_mod (x ^^^ 2 ^ 63) (2 ^ 63)
  rw [h1, h2] at h4
  unfold fneg wd sgn rg SGN
  simp only [show (9223372036854775808 : Nat) = 2 ^ 63 from rfl]
  have h6 : x / 2 ^ 63 = 0 ∨ x / 2 ^ 63 = 1 := by omega
  generalize x ^^^ 2 ^ 63 = y at *
  rcases h6 with h5 | h5
  · rw [h5, show (0 : Nat) ^^^ 1 = 1 from rfl] at h4
    rw [h5]
    simp only [Nat.zero_mod, show ((0 : Nat) == 1) = false from rfl, Bool.not_false, if_true]
    omega
  · rw [h5, show (1 : Nat) ^^^ 1 = 0 from rfl] at h4
    rw [h5]
    simp only [show (1 : Nat) % 2 = 1 from rfl, beq_self_eq_true, Bool.not_true, Bool.false_eq_true, if_false]
    omega
theorem neg_fneg (x : Nat) (h : x < 2 ^ 64) : Op.negFloat .f64 x = fneg x := xor_top x h
@[go_sem] theorem run_neg_float (x : Nat) (w : World) : (Op.unary UnOp.neg (.float .f64 x)).run Try.prog w = .ok (.float .f64 (Op.negFloat .f64 x)) w := rfl
/-- three rows of the call's own, side by side -/
structure R3 (w wr : World) (v1 v2 v3 : Value) (k1 k2 k3 : Nat) (A B C : List Nat) : Prop where
  o1 : wr.ownsRow w.heap.size 24 1 v1 k1 (fls A)
  o2 : wr.ownsRow w.heap.size 24 1 v2 k2 (fls B)
  o3 : wr.ownsRow w.heap.size 24 1 v3 k3 (fls C)
  d12 : ∀ g, v1.ownBlock = some g → v2.ownBlock ≠ some g
  d23 : ∀ g, v2.ownBlock = some g → v3.ownBlock ≠ some g
  d31 : ∀ g, v3.ownBlock = some g → v1.ownBlock ≠ some g
  b : Below w.heap.size w wr
theorem R3.rot {w wr : World} {v1 v2 v3 : Value} {k1 k2 k3 : Nat} {A B C : List Nat} (h : R3 w wr v1 v2 v3 k1 k2 k3 A B C) : R3 w wr v2 v3 v1 k2 k3 k1 B C A :=
  ⟨h.o2, h.o3, h.o1, h.d23, h.d31, h.d12, h.b⟩
theorem R3.start (w : World) : R3 w w (.slice none 0 0) (.slice none 0 0) (.slice none 0 0) 0 0 0 [] [] [] :=
  ⟨World.ownsRow_nil _ _ _ _, World.ownsRow_nil _ _ _ _, World.ownsRow_nil _ _ _ _, (fun g h => by cases h), (fun g h => by cases h), (fun g h => by cases h), Below.refl _ _⟩
theorem own_lt {w : World} {B n g : Nat} {v : Value} {l : List Value} (h : w.ownsRow B 24 1 v n l) (hg : v.ownBlock = some g) : g < w.heap.size := by
  rcases h.2 with ⟨rfl, rfl⟩ | ⟨g', cap, cur, rfl, _, h1, hc, hm, hs, ht⟩
  · cases hg
  · obtain rfl : g' = g := Option.some.inj hg
    exact (Array.getElem?_eq_some_iff.1 h1).1
theorem R3.grow {w wr w' : World} {v1 v2 v3 : Value} {k1 k2 k3 : Nat} {A B C : List Nat} (h : R3 w wr v1 v2 v3 k1 k2 k3 A B C) (ob : Obj) {g' c' y : Nat}
    (ow : w'.ownsRow w.heap.size 24 1 (.slice (some ⟨g', 0, none⟩) (k1 + 1) c') (k1 + 1) (fls A ++ [.float .f64 y])) (gr : (wr.alloc ob).grownBy w' v1.ownBlock) (hp : v1.ownBlock = some g' ∨ g' = (wr.alloc ob).heap.size) :
    R3 w w' (.slice (some ⟨g', 0, none⟩) (k1 + 1) c') v2 v3 (k1 + 1) k2 k3 (A ++ [y]) B C := by
  have hz : (wr.alloc ob).heap.size = wr.heap.size + 1 := Array.size_push _
  refine ⟨by rw [fls_snoc]; exact ow, (h.o2.alloc ob).kept gr ?_, (h.o3.alloc ob).kept gr ?_, fun g hg => ?_, h.d23, fun g hg => ?_, grownB (h.b.alloc h.b.size ob) gr (h.o1.alloc ob) (by have := h.b.size; omega)⟩
  · cases e : v2.ownBlock with
    | none => exact .inl rfl
    | some g => exact .inr fun e2 => h.d12 g e2.symm e
  · cases e : v3.ownBlock with
    | none => exact .inl rfl
    | some g => exact .inr fun e2 => h.d31 g e e2.symm
  · obtain rfl : g' = g := Option.some.inj hg
    rcases hp with hp | hp
    · exact h.d12 _ hp
    · intro e; have := own_lt h.o2 e; omega
  · intro e
    obtain rfl : g' = g := Option.some.inj e
    rcases hp with hp | hp
    · exact h.d31 _ hg hp
    · have := own_lt h.o3 hg; omega
end Go.Proofs.Ytoobpiednigcgaa
