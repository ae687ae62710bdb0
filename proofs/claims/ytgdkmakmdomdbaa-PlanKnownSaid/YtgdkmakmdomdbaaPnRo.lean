import Derived.Test.YtgdkmakmdomdbaaPnTi
import Derived.Test.YtgdkmakmdomdbaaPnRz
import Derived.Test.YtgdkmakmdomdbaaPnAr
import Derived.Laws.OwnMore
import Derived.Maps.AppendAt
import Derived.Deep.QuietTactic
import Derived.BigQuiet
set_option autoImplicit false
set_option linter.unusedVariables false
namespace Go.Proofs.Ytgdkmakmdomdbaa
open Go.RowKit Lk Pn
theorem slv_one (l : List Sl) : ∀ u ∈ slv l, u.oneCell' = true := by
  intro u hu
  obtain ⟨s, _, h⟩ := List.mem_flatMap.1 hu
  exact slc_one' s u h
theorem slv_app (A B : List Sl) : slv (A ++ B) = slv A ++ slv B := by simp [slv]
section
variable {ops : Array Oper} {rest : List Oper} {o : Oper} {a : Act} {Q : Exit → Act → World → Prop} {w : World}
/-- stretches behind stretches -/
theorem wpList_append_sl (hgd : o.guard = none) (s x : Operand) (ho : o.op = .call { callee := .builtin .append, args := #[s, x], argTypes := #[45, 45] })
    (base B2 : Nat) (v u : Value) (A M : List Sl) (hs : a.eval s = v) (hown : w.ownsRow base 42 4 v A.length (slv A)) (hx : a.eval x = u) (hu : w.ownsRow B2 42 4 u M.length (slv M)) (hA : A.length ≤ 1000000) (hM : M.length ≤ 1000000) (hbase : base ≤ w.heap.size)
    (h : ∀ v' w', w'.ownsRow base 42 4 v' (A ++ M).length (slv (A ++ M)) → w.grownBy w' v.ownBlock → (v'.ownBlock = v.ownBlock ∨ v'.ownBlock = some w.heap.size) → wpList Try.prog ops Q rest (a.put o.dst v') w') : wpList Try.prog ops Q (o :: rest) a w := by
  obtain ⟨I, Z, hi, hz, hsz, hby, hzs⟩ := info5 slot_info
  rcases hu.2 with ⟨rfl, h0⟩ | ⟨g, cap, cur, rfl, hB, hb, h1, h2, _, h3⟩
  · have hM0 : M = [] := List.eq_nil_of_length_eq_zero h0
    subst hM0
    refine wpList_plain hgd fun K hK => ?_
    have hr := run_append_owned_none (P := Try.prog) (w := w) base 45 o.type 42 I 4 Try.und45 hi v A.length (slv A) hown
    unfold Oper.wp execOp
    simp only [ho, resolve, invoke, builtin, Sem.run_bind, Sem.run_pure, Result.andThen_ok, List.map_toArray, List.map_cons, List.map_nil, hs, hx, hr]
    exact hK _ _ (h v w (by rw [List.append_nil]; exact hown) ⟨rfl, rfl, rfl, Nat.le_refl _, fun _ _ _ => rfl⟩ (.inl rfl))
  · refine wpList_append_own_at _ hgd s x 45 ho base 42 I Z 4 32 Try.und45 hi hz hsz hby hzs (by decide) v A.length (slv A) hs hown ⟨g, 0, none⟩ M.length cap (slv M) hx (slv_len M) (fun j u hu2 => ?_) (slv_one M) (by simp only [maxLen]; omega) (by omega) hbase (fun v' w' k1 k2 _ k4 => h v' w' (by rw [slv_app, List.length_append]; exact k1) k2 k4)
    rw [Addr.add_lit, Nat.zero_add]
    have hj : j < M.length * 4 := by rw [← slv_len M]; exact (List.getElem?_eq_some_iff.1 hu2).1
    rw [blk_cell hb]
    rw [← h3, List.getElem?_take, if_pos hj] at hu2
    rw [← hu2]; simp
end
theorem PS.blocks {B : Nat} {w w' : World} {S : Nat → Prop} {p : Nat} {st : Pl} (h : PS B w S p st) (hs : w.heap.size ≤ w'.heap.size) (hb : ∀ k, S k → w'.heap[k]? = w.heap[k]?) : PS B w' S p st := by
  obtain ⟨lb, cap, vs, q⟩ := h.pa
  exact ⟨⟨lb, cap, vs, q.keep hb (fun _ h => h) fun k hk => Nat.lt_of_lt_of_le (q.inS k hk) hs⟩, h.lo⟩
/-- two plans, a list told at once, a list told in goes -/
structure RwM (p q : Nat) (w wr : World) (Sp Sq : Nat → Prop) (stp stq : Pl) (B U : Nat) (u v : Value) (outs parts : List Sl) : Prop where
  b : Below w.heap.size w wr
  B0 : w.heap.size ≤ B
  B1 : B ≤ wr.heap.size
  pp : PS w.heap.size wr Sp p stp
  pq : PS w.heap.size wr Sq q stq
  dis : ∀ k, Sp k → ¬ Sq k
  uo : wr.ownsRow U 42 4 u outs.length (slv outs)
  un : ∀ g, u.ownBlock = some g → ¬ Sq g ∧ g < B
  own : wr.ownsRow B 42 4 v parts.length (slv parts)
  vn : ∀ g, v.ownBlock = some g → ¬ Sq g ∧ ¬ Sp g
theorem own_lt {w : World} {B E sz n : Nat} {v : Value} {xs : List Value} (h : w.ownsRow B E sz v n xs) {g : Nat} (hg : v.ownBlock = some g) : B ≤ g ∧ g < w.heap.size := h.lt g hg
/-- q's Until, and what it told put behind -/
theorem RwM.next {p q : Nat} {w wr w1 w2 : World} {Sp Sq S' : Nat → Prop} {stp stq stq' : Pl} {B U : Nat} {u v x v' : Value} {outs parts M : List Sl} (h : RwM p q w wr Sp Sq stp stq B U u v outs parts) (ox : w1.ownsRow wr.heap.size 42 4 x M.length (slv M)) (h1 : PS w.heap.size w1 S' q stq') (hS : ∀ k, S' k → Sq k ∨ wr.heap.size ≤ k)
    (f : Fr Sq wr w1) (hv : w2.ownsRow B 42 4 v' (parts ++ M).length (slv (parts ++ M))) (gr : w1.grownBy w2 v.ownBlock) (hat : v'.ownBlock = v.ownBlock ∨ v'.ownBlock = some w1.heap.size) : RwM p q w w2 Sp S' stp stq' B U u v' outs (parts ++ M) := by
  have z1 := f.size
  have z2 := gr.size
  have pin := h.pp.inS
  have qin := h1.inS
  have vb : ∀ g, v.ownBlock = some g → ¬ S' g ∧ ¬ Sp g ∧ B ≤ g ∧ g < wr.heap.size := fun g hg => by
    obtain ⟨a1, a2⟩ := own_lt h.own hg
    exact ⟨fun e => (hS g e).elim (h.vn g hg).1 (fun e => by omega), (h.vn g hg).2, a1, a2⟩
  have ub : ∀ g, u.ownBlock = some g → g < wr.heap.size ∧ ¬ Sq g ∧ g < B := fun g hg => ⟨(own_lt h.uo hg).2, h.un g hg⟩
  have B1 := h.B1
  refine ⟨?_, h.B0, by omega, (h.pp.apart f h.dis).blocks z2 fun k hk => gr.block k (by have := pin k hk; omega) (fun e => (vb k e.symm).2.1 hk), h1.blocks z2 fun k hk => gr.block k (qin k hk) (fun e => (vb k e.symm).1 hk), fun k hk hk2 => (hS k hk2).elim (h.dis k hk) (fun e => by have := pin k hk; omega), ?_, fun g hg => ⟨fun e => (hS g e).elim (ub g hg).2.1 (fun e => by have := (ub g hg).1; omega), (ub g hg).2.2⟩, hv, fun g hg => ?_⟩
  · have b1 := h.b.trans (h.pq.frb f h.b.size)
    refine b1.trans ⟨gr.os, gr.tape, gr.output, gr.size, fun i hi => gr.block i (by have := b1.size; omega) fun e => ?_⟩
    have := (vb i e.symm).2.2.1
    have := h.B0
    omega
  · exact own_keep (own_keep h.uo fun g hg => f.block g (ub g hg).1 (ub g hg).2.1) fun g hg => gr.block g (by have := (ub g hg).1; omega) (fun e => by have := (vb g e.symm).2.2.1; have := (ub g hg).2.2; omega)
  · rcases hat with e | e
    · rw [e] at hg; exact ⟨(vb g hg).1, (vb g hg).2.1⟩
    · rw [e] at hg
      cases hg
      exact ⟨fun e => by have := qin _ e; omega, fun e => by have := pin _ e; omega⟩
end Go.Proofs.Ytgdkmakmdomdbaa
