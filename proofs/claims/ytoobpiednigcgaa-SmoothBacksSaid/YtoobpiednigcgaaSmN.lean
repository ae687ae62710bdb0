import Derived.Test.YtoobpiednigcgaaSmY
set_option autoImplicit false
set_option linter.unusedVariables false
namespace Go.Proofs.Ytoobpiednigcgaa
open Go.RowKit Lk
/-- a list lent, with a mark behind it -/
structure Lf (w : World) (B g n c : Nat) (l : List Nat) : Prop where
  own : w.ownsRow B 24 1 (.slice (some ⟨g, 0, none⟩) (n + 1) c) (n + 1) (fls (l ++ [4635118810238550016]))
  len : l.length = n
  lt : ∀ x ∈ l, x < 2 ^ 64
  small : n ≤ 1048576
theorem Lf.keep {w w' : World} {B g n c : Nat} {l : List Nat} (h : Lf w B g n c l) (b : Below w.heap.size w w') : Lf w' B g n c l := ⟨ownsB h.own b, h.len, h.lt, h.small⟩
theorem Lf.cap {w : World} {B g n c : Nat} {l : List Nat} (h : Lf w B g n c l) : n + 1 ≤ c ∧ c ≤ 9223372036854775807 ∧ g < w.heap.size := by
  obtain ⟨g', e, h1, h2, h3, h4⟩ := own_some h.own (by omega)
  cases e
  exact ⟨h3, h4, h2⟩
theorem Lf.fs {w : World} {B g n c : Nat} {l : List Nat} (h : Lf w B g n c l) : Fs w (some ⟨g, 0, none⟩) n c l := by
  obtain ⟨h1, h2, h3⟩ := h.cap
  refine ⟨h.len, by omega, h2, h.lt, .inr ⟨g, 0, rfl, h3, fun j hj => ?_⟩, fun h => by cases h⟩
  rw [h.own.cellAt (0 + j) (by have := h.len; omega)]
  simp only [fls, List.getElem?_map, Nat.zero_add, List.getElem?_append_left hj, List.getElem?_eq_getElem hj, Option.map_some]
theorem Lf.mark {w : World} {B g n c : Nat} {l : List Nat} (h : Lf w B g n c l) : w.cell? ⟨g, n, none⟩ = some (.float .f64 4635118810238550016) := by
  rw [h.own.cellAt n (by omega)]
  simp only [fls, List.getElem?_map, List.getElem?_append_right (Nat.le_of_eq h.len), h.len, Nat.sub_self]
  rfl
theorem run_reslice (g n m cap : Nat) (h : n ≤ cap) (hs : n ≤ 9223372036854775807) (w : World) : (Instr.slice 23 (.slice (some ⟨g, 0, none⟩) m cap) none (some (.int .i64 (n : Int))) none).run Try.prog w = .ok (.slice (some ⟨g, 0, none⟩) n cap) w := by
  simp [Instr.slice, run_underlying Try.und23, Instr.sliceBounds, Instr.sliceBound, asIntOf, go_sem, h]
/-- one float more -/
theorem wpList_append_x {ops : Array Oper} {rest : List Oper} {o : Oper} {a : Act} {Q : Exit → Act → World → Prop} {w : World} (hgd : o.guard = none) (s x : Operand) (ho : o.op = .call { callee := .builtin .append, args := #[s, x], argTypes := #[23, 23] })
    (base : Nat) (v : Value) (n : Nat) (xs : List Value) (hs : a.eval s = v) (hown : w.ownsRow base 24 1 v n xs)
    {g c y : Nat} (hx : a.eval x = .slice (some ⟨g, 0, none⟩) 1 c) (hb : w.heap[g]? = some (.cells #[.float .f64 y] 24 (0, 0))) (h63 : n ≤ 4194304) (hbase : base ≤ w.heap.size)
    (h : ∀ g' c' w', w'.ownsRow base 24 1 (.slice (some ⟨g', 0, none⟩) (n + 1) c') (n + 1) (xs ++ [.float .f64 y]) → w.grownBy w' v.ownBlock → wpList Try.prog ops Q rest (a.put o.dst (.slice (some ⟨g', 0, none⟩) (n + 1) c')) w') : wpList Try.prog ops Q (o :: rest) a w := by
  obtain ⟨J, ji, jz, jsz, jby⟩ := info_parts flt_info
  refine wpList_append_own _ hgd s x 23 ho base 24 J _ 1 8 Try.und23 ji jz jsz jby rfl (by decide) v n xs hs hown ⟨g, 0, none⟩ 1 c [.float .f64 y] hx rfl (one_cells hb) (one1 rfl) (by simp only [maxLen]; omega) (by omega) hbase (fun v' w' h1 h2 _ => ?_)
  obtain ⟨a', c', rfl⟩ := own_form h1
  obtain ⟨g', rfl, _⟩ := own_some h1 (by omega)
  exact h g' c' w' h1 h2
set_option maxHeartbeats 4000000 in
theorem own_walk (a : Option Addr) (n cap : Nat) (l : List Nat) (w : World) (s : Fs w a n cap l) (hn : n ≤ 1048576) : Calls Try.prog 10 #[.slice a n cap] w
    (fun e w' => ∃ g c, e = .returned (.slice (some ⟨g, 0, none⟩) n c) ∧ Lf w' w.heap.size g n c l ∧ Below w.heap.size w w') := by
  have S := Lib.hid s
  have LT := Lib.hid s.lt
  have LN := Lib.hid s.len
  clear s
  go_enter Try.func10, Try.ntmps10
  go_wp2_with (first
    | (refine wpList_append_fs rfl (.const (.slice none 0 0)) (.tmp 4) rfl w.heap.size _ 0 [] rfl (World.ownsRow_nil _ _ _ _) rfl S.out (by omega) (Nat.le_refl _) ?_; intro a3 c3 w3 ow gr; have B3 := Lib.hid (grownB (B := w.heap.size) (w := w) (Below.refl _ w) gr (World.ownsRow_nil w w.heap.size 24 1) (Nat.le_refl _)); have O3 : Hid (w3.ownsRow w.heap.size 24 1 (.slice a3 n c3) n (fls l)) := Lib.hid (by simpa using ow); have z3 := B3.out.size; clear ow gr)
    | (refine wpList_append_x rfl (.tmp 6) (.tmp 7) rfl w.heap.size _ n (fls l) rfl (O3.out.alloc _) rfl (Deep.blk_alloc_new w3 _) (by omega) (by simp; omega) ?_; intro g5 c5 w5 ow gr; have B5 := Lib.hid (grownB (B3.out.alloc z3 _) gr (O3.out.alloc _) (by simp; omega)); have O5 : Hid (w5.ownsRow w.heap.size 24 1 (.slice (some ⟨g5, 0, none⟩) (n + 1) c5) (n + 1) (fls (l ++ [4635118810238550016]))) := Lib.hid (by rw [fls_snoc]; exact ow); have L5 : Hid (Lf w5 w.heap.size g5 n c5 l) := Lib.hid ⟨O5.out, LN.out, LT.out, hn⟩; have hr := run_reslice g5 n (n + 1) c5 (by have := L5.out.cap; omega) (by omega); clear ow gr))
  go_ret
  exact ⟨g5, c5, rfl, L5.out, B5.out⟩
end Go.Proofs.Ytoobpiednigcgaa
