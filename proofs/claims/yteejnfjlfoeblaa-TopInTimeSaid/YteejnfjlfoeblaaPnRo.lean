import Derived.Test.YteejnfjlfoeblaaPnTi
import Derived.Test.YteejnfjlfoeblaaPnRz
import Derived.Laws.OwnMore
import Derived.Maps.AppendAt
import Derived.Deep.QuietTactic
import Derived.BigQuiet
set_option autoImplicit false
set_option linter.unusedVariables false
namespace Go.Proofs.Yteejnfjlfoeblaa
open Go.RowKit Lk Pn
theorem slv_one (l : List Sl) : ∀ u ∈ slv l, u.oneCell' = true := by
  intro u hu
  obtain ⟨s, _, h⟩ := List.mem_flatMap.1 hu
  exact slc_one' s u h
theorem slv_app (A B : List Sl) : slv (A ++ B) = slv A ++ slv B := by simp [slv]
section
variable {ops : Array Oper} {rest : List Oper} {o : Oper} {a : Act} {Q : Exit → Act → World → Prop} {w : World}
/-- stretches behind stretches -/
theorem wpList_append_sl (hgd : o.guard = none) (s x : Operand) (ho : o.op = .call { callee := .builtin .append, args := #[s, x], argTypes := #[33, 33] })
    (base B2 : Nat) (v u : Value) (A M : List Sl) (hs : a.eval s = v) (hown : w.ownsRow base 38 4 v A.length (slv A)) (hx : a.eval x = u) (hu : w.ownsRow B2 38 4 u M.length (slv M)) (hA : A.length ≤ 1000000) (hM : M.length ≤ 1000000) (hbase : base ≤ w.heap.size)
    (h : ∀ v' w', w'.ownsRow base 38 4 v' (A ++ M).length (slv (A ++ M)) → w.grownBy w' v.ownBlock → (v'.ownBlock = v.ownBlock ∨ v'.ownBlock = some w.heap.size) → wpList Try.prog ops Q rest (a.put o.dst v') w') : wpList Try.prog ops Q (o :: rest) a w := by
  obtain ⟨I, Z, hi, hz, hsz, hby, hzs⟩ := info5 slot_info
  rcases hu.2 with ⟨rfl, h0⟩ | ⟨g, cap, cur, rfl, hB, hb, h1, h2, _, h3⟩
  · have hM0 : M = [] := List.eq_nil_of_length_eq_zero h0
    subst hM0
    refine wpList_plain hgd fun K hK => ?_
    have hr := run_append_owned_none (P := Try.prog) (w := w) base 33 o.type 38 I 4 Try.und33 hi v A.length (slv A) hown
    unfold Oper.wp execOp
    simp only [ho, resolve, invoke, builtin, Sem.run_bind, Sem.run_pure, Result.andThen_ok, List.map_toArray, List.map_cons, List.map_nil, hs, hx, hr]
    exact hK _ _ (h v w (by rw [List.append_nil]; exact hown) ⟨rfl, rfl, rfl, Nat.le_refl _, fun _ _ _ => rfl⟩ (.inl rfl))
  · refine wpList_append_own_at _ hgd s x 33 ho base 38 I Z 4 32 Try.und33 hi hz hsz hby hzs (by decide) v A.length (slv A) hs hown ⟨g, 0, none⟩ M.length cap (slv M) hx (slv_len M) (fun j u hu2 => ?_) (slv_one M) (by simp only [maxLen]; omega) (by omega) hbase (fun v' w' k1 k2 _ k4 => h v' w' (by rw [slv_app, List.length_append]; exact k1) k2 k4)
    rw [Addr.add_lit, Nat.zero_add]
    have hj : j < M.length * 4 := by rw [← slv_len M]; exact (List.getElem?_eq_some_iff.1 hu2).1
    rw [blk_cell hb]
    rw [← h3, List.getElem?_take, if_pos hj] at hu2
    rw [← hu2]; simp
end
theorem PS.blocks {B : Nat} {w w' : World} {S : Nat → Prop} {p : Nat} {st : Pl} (h : PS B w S p st) (hs : w.heap.size ≤ w'.heap.size) (hb : ∀ k, S k → w'.heap[k]? = w.heap[k]?) : PS B w' S p st := by
  obtain ⟨lb, cap, vs, q⟩ := h.pa
  exact ⟨⟨lb, cap, vs, q.keep hb (fun _ h => h) fun k hk => Nat.lt_of_lt_of_le (q.inS k hk) hs⟩, h.lo⟩
theorem own_lt {w : World} {B E sz n : Nat} {v : Value} {xs : List Value} (h : w.ownsRow B E sz v n xs) {g : Nat} (hg : v.ownBlock = some g) : B ≤ g ∧ g < w.heap.size := h.lt g hg
end Go.Proofs.Yteejnfjlfoeblaa
