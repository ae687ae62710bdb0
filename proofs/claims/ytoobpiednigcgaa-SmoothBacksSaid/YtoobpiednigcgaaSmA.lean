import Derived.Test.YtoobpiednigcgaaSmGd
import Derived.Laws.AppendOwnNone
import Derived.Laws.OwnMore
set_option autoImplicit false
set_option linter.unusedVariables false
namespace Go.Proofs.Ytoobpiednigcgaa
open Go.RowKit Lk
def flat (L : List St) : List Value := L.flatMap fl5'
where fl5' (s : St) : List Value := [.float .f64 s.x, .float .f64 s.v, .float .f64 s.pxx, .float .f64 s.pxv, .float .f64 s.pvv]
theorem flat_cons (t : St) (L : List St) : flat (t :: L) = flat.fl5' t ++ flat L := by unfold flat; rw [List.flatMap_cons]
theorem flat_len (L : List St) : (flat L).length = L.length * 5 := by
  induction L with
  | nil => rfl
  | cons s L ih => rw [flat_cons, List.length_append, ih, List.length_cons]; show 5 + _ = _; omega
theorem flat_get {L : List St} : ∀ {j r : Nat} {s : St}, L[j]? = some s → r < 5 → (flat L)[j * 5 + r]? = (flat.fl5' s)[r]? := by
  induction L with
  | nil => intro j r s h _; cases h
  | cons t L ih =>
    intro j r s h hr
    rw [flat_cons]
    cases j with
    | zero =>
      simp only [List.getElem?_cons_zero, Option.some.injEq] at h
      subst h
      rw [Nat.zero_mul, Nat.zero_add, List.getElem?_append_left hr]
    | succ j =>
      simp only [List.getElem?_cons_succ] at h
      rw [List.getElem?_append_right (by show 5 ≤ _; omega)]
      have : (j + 1) * 5 + r - (flat.fl5' t).length = j * 5 + r := by show (j + 1) * 5 + r - 5 = _; omega
      rw [this]; exact ih h hr
theorem add_off (b off j : Nat) : (⟨b, off, none⟩ : Addr).add j = ⟨b, off + j, none⟩ := by
  unfold Addr.add; split <;> simp_all
theorem own_form {w : World} {B E sz n : Nat} {v : Value} {xs : List Value} (h : w.ownsRow B E sz v n xs) : ∃ a cap, v = .slice a n cap := by
  rcases h.2 with ⟨rfl, rfl⟩ | ⟨g, cap, cur, rfl, _⟩
  · exact ⟨none, 0, rfl⟩
  · exact ⟨_, _, rfl⟩
section
variable {ops : Array Oper} {rest : List Oper} {o : Oper} {a : Act} {Q : Exit → Act → World → Prop} {w : World}
/-- append of a lent list of floats to a list of the call's own -/
theorem wpList_append_fs (hgd : o.guard = none) (s x : Operand) (ho : o.op = .call { callee := .builtin .append, args := #[s, x], argTypes := #[23, 23] })
    (base : Nat) (v : Value) (n : Nat) (xs : List Value) (hs : a.eval s = v) (hown : w.ownsRow base 24 1 v n xs)
    {ad : Option Addr} {m c : Nat} {S : List Nat} (hx : a.eval x = .slice ad m c) (hS : Fs w ad m c S) (h63 : n + m ≤ 4194304) (hbase : base ≤ w.heap.size)
    (h : ∀ a' c' w', w'.ownsRow base 24 1 (.slice a' (n + m) c') (n + m) (xs ++ fls S) → w.grownBy w' v.ownBlock → wpList Try.prog ops Q rest (a.put o.dst (.slice a' (n + m) c')) w') : wpList Try.prog ops Q (o :: rest) a w := by
  replace h : ∀ v' w', w'.ownsRow base 24 1 v' (n + m) (xs ++ fls S) → w.grownBy w' v.ownBlock → wpList Try.prog ops Q rest (a.put o.dst v') w' := fun v' w' h1 h2 => by
    obtain ⟨a', c', rfl⟩ := own_form h1
    exact h a' c' w' h1 h2
  obtain ⟨J, ji, jz, jsz, jby⟩ := info_parts flt_info
  cases ad with
  | none =>
    have hc := hS.nil rfl
    have hm : m = 0 := by have := hS.le; omega
    subst hc; subst hm
    have hSe : S = [] := List.eq_nil_of_length_eq_zero hS.len
    subst hSe
    refine wpList_append_own_none hgd s x 23 ho base 24 J 1 Try.und23 ji v n xs hs hown hx (h v w (by simpa [fls] using hown) ⟨rfl, rfl, rfl, Nat.le_refl _, fun _ _ _ => rfl⟩)
  | some ad =>
    refine wpList_append_own _ hgd s x 23 ho base 24 J _ 1 8 Try.und23 ji jz jsz jby rfl (by decide) v n xs hs hown ad m c (fls S) hx (by simp [fls, hS.len]) ?_ ?_ (by simp only [maxLen]; omega) (by omega) hbase (fun v' w' h1 h2 _ => h v' w' h1 h2)
    · intro j u hj
      rcases hS.cells with h0 | ⟨b, off, e, hb, hc⟩
      · have : S = [] := List.eq_nil_of_length_eq_zero (by rw [hS.len]; exact h0)
        subst this; cases hj
      · cases e
        have hjl : j < S.length := by have := (List.getElem?_eq_some_iff.1 hj).1; simpa [fls] using this
        rw [add_off, hc j hjl]
        simp [fls, hjl] at hj
        exact congrArg some hj
    · intro u hu
      obtain ⟨y, _, rfl⟩ := List.mem_map.1 hu
      rfl
/-- append of a lent list of states to a list of the call's own -/
theorem wpList_append_ss (hgd : o.guard = none) (s x : Operand) (ho : o.op = .call { callee := .builtin .append, args := #[s, x], argTypes := #[22, 22] })
    (base : Nat) (v : Value) (n : Nat) (xs : List Value) (hs : a.eval s = v) (hown : w.ownsRow base 27 5 v n xs)
    {ad : Option Addr} {m c : Nat} {S : List St} (hx : a.eval x = .slice ad m c) (hS : Ss w ad m c S) (h63 : n + m ≤ 4194304) (hbase : base ≤ w.heap.size)
    (h : ∀ a' c' w', w'.ownsRow base 27 5 (.slice a' (n + m) c') (n + m) (xs ++ flat S) → w.grownBy w' v.ownBlock → wpList Try.prog ops Q rest (a.put o.dst (.slice a' (n + m) c')) w') : wpList Try.prog ops Q (o :: rest) a w := by
  replace h : ∀ v' w', w'.ownsRow base 27 5 v' (n + m) (xs ++ flat S) → w.grownBy w' v.ownBlock → wpList Try.prog ops Q rest (a.put o.dst v') w' := fun v' w' h1 h2 => by
    obtain ⟨a', c', rfl⟩ := own_form h1
    exact h a' c' w' h1 h2
  obtain ⟨J, ji, jz, jsz, jby⟩ := info_parts st_info
  cases ad with
  | none =>
    have hc := hS.nil rfl
    have hm : m = 0 := by have := hS.le; omega
    subst hc; subst hm
    have hSe : S = [] := List.eq_nil_of_length_eq_zero hS.len
    subst hSe
    refine wpList_append_own_none hgd s x 22 ho base 27 J 5 Try.und22 ji v n xs hs hown hx (h v w (by simpa [flat] using hown) ⟨rfl, rfl, rfl, Nat.le_refl _, fun _ _ _ => rfl⟩)
  | some ad =>
    refine wpList_append_own _ hgd s x 22 ho base 27 J _ 5 40 Try.und22 ji jz jsz jby rfl (by decide) v n xs hs hown ad m c (flat S) hx (by rw [flat_len, hS.len]) ?_ ?_ (by simp only [maxLen]; omega) (by omega) hbase (fun v' w' h1 h2 _ => h v' w' h1 h2)
    · intro j u hj
      have hjl : j < S.length * 5 := by have := (List.getElem?_eq_some_iff.1 hj).1; rwa [flat_len] at this
      rcases hS.cells with h0 | ⟨b, off, e, hb, hc⟩
      · have : S = [] := List.eq_nil_of_length_eq_zero (by rw [hS.len]; exact h0)
        subst this; cases hj
      · cases e
        have hj5 : j / 5 < S.length := by omega
        have hs5 : S[j / 5]? = some S[j / 5] := List.getElem?_eq_getElem hj5
        have e : j = j / 5 * 5 + j % 5 := by omega
        have hg := flat_get hs5 (show j % 5 < 5 by omega)
        rw [← e, hj] at hg
        have hat := hc (j / 5) hj5
        rw [add_off, show off + j = off + j / 5 * 5 + j % 5 by omega]
        have hr : j % 5 = 0 ∨ j % 5 = 1 ∨ j % 5 = 2 ∨ j % 5 = 3 ∨ j % 5 = 4 := by omega
        rcases hr with r | r | r | r | r <;> rw [r] at hg ⊢ <;> rw [hg]
        · exact hat.c0
        · exact hat.c1
        · exact hat.c2
        · exact hat.c3
        · exact hat.c4
    · intro u hu
      unfold flat at hu
      obtain ⟨s, _, hs⟩ := List.mem_flatMap.1 hu
      simp only [flat.fl5', List.mem_cons, List.not_mem_nil, or_false] at hs
      rcases hs with rfl | rfl | rfl | rfl | rfl <;> rfl
end
end Go.Proofs.Ytoobpiednigcgaa
