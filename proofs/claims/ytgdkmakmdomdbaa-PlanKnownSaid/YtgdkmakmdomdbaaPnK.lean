import Derived.Test.YtgdkmakmdomdbaaPnW
import Derived.Laws.OwnMore
set_option autoImplicit false
set_option linter.unusedVariables false
namespace Go.Proofs.Ytgdkmakmdomdbaa
open Go.RowKit Lk Pn
theorem run_one5 {Y : Ly} (hY : Y = cY ∨ Y = dY) (l : List Rn) : ∀ u ∈ flatR Y l, u.oneCell' = true := by
  intro u hu
  obtain ⟨r, _, hr⟩ := List.mem_flatMap.1 hu
  rcases hY with rfl | rfl <;>
  · simp only [cY, dY, List.mem_cons, List.not_mem_nil, or_false] at hr
    rcases hr with rfl | rfl | rfl | rfl | rfl <;> rfl
/-- append of what waits to a list of the call's own -/
theorem run_copy_wt (Y : Ly) (hY : Y = cY ∨ Y = dY) (t ty : TypeId) (i : TypeInfo) (z : Value) (bytes : Nat) (ht : Try.prog.underlying t = some (.slice Y.tr)) (hi : Try.prog.info? Y.tr = some i) (hz : i.zero = some z) (hsize : i.size = 5) (hby : i.bytes = bytes) (hb1 : bytes ≤ 48) (hzs : z.cells.size = 5)
    {w : World} {v : Value} {l : List Rn} (hw : Wt Y w v l) (h63 : l.length ≤ 4194304) :
    ∃ v' w', (Builtin.append_ #[t, t] ty #[.slice none 0 0, v]).run Try.prog w = .ok v' w' ∧ Wt Y w' v' l ∧ w.grownBy w' none ∧ (∀ g, v'.ownBlock = some g → w.heap.size ≤ g) := by
  rcases hw with ⟨rfl, rfl⟩ | ⟨g, off, cap, cur, rfl, h⟩
  · exact ⟨_, _, run_append_owned_none w w.heap.size t ty Y.tr i 5 ht hi (.slice none 0 0) 0 [] (World.ownsRow_nil _ _ _ _), .inl ⟨rfl, rfl⟩, ⟨rfl, rfl, rfl, Nat.le_refl _, fun _ _ _ => rfl⟩, fun g h => by cases h⟩
  · have hby2 : (0 + l.length) * bytes ≤ 140737488355328 := by rw [Nat.zero_add]; exact Nat.le_trans (Nat.mul_le_mul h63 hb1) (by decide)
    obtain ⟨v', w', hr, h2, h3, h4⟩ := run_append_own (P := Try.prog) w w.heap.size t ty Y.tr i z 5 bytes ht hi hz hsize hby hzs (by decide) (.slice none 0 0) 0 [] (World.ownsRow_nil _ _ _ _) ⟨g, off, none⟩ l.length cap (flatR Y l) (flatR_len Y l)
      (fun j u hu => by
        rw [Addr.add_lit]
        have hj : j < l.length * 5 := by rw [← flatR_len Y l]; exact (List.getElem?_eq_some_iff.1 hu).1
        simp only [World.cell?, h.hb]
        rw [← hu, ← h.cl j hj]; rfl) (run_one5 hY l) (by simp only [maxLen]; omega) hby2 (Nat.le_refl _)
    rw [Nat.zero_add, List.nil_append] at h2
    refine ⟨v', w', hr, ?_, ⟨h3.os, h3.tape, h3.output, h3.size, fun k hk _ => h3.block k hk (by simp [Value.ownBlock])⟩, fun b hb => (h2.lt b hb).1⟩
    by_cases h0 : 0 < l.length
    · obtain ⟨g', cap', cur', rfl, _, _, hB⟩ := wt_of_own h2 h0
      exact .inr ⟨g', 0, cap', cur', rfl, hB⟩
    · have : l = [] := List.eq_nil_of_length_eq_zero (by omega)
      subst this
      exact .inl ⟨h4.2 ⟨rfl, rfl⟩, rfl⟩
section
variable {ops : Array Oper} {rest : List Oper} {o : Oper} {a : Act} {Q : Exit → Act → World → Prop} {w : World}
theorem wpList_copy_wt (Y : Ly) (hY : Y = cY ∨ Y = dY) (hgd : o.guard = none) (s x : Operand) (t : TypeId) (ho : o.op = .call { callee := .builtin .append, args := #[s, x], argTypes := #[t, t] })
    (i : TypeInfo) (z : Value) (bytes : Nat) (ht : Try.prog.underlying t = some (.slice Y.tr)) (hi : Try.prog.info? Y.tr = some i) (hz : i.zero = some z) (hsize : i.size = 5) (hby : i.bytes = bytes) (hb1 : bytes ≤ 48) (hzs : z.cells.size = 5)
    (hs : a.eval s = .slice none 0 0) {v : Value} {l : List Rn} (hx : a.eval x = v) (hw : Wt Y w v l) (h63 : l.length ≤ 4194304)
    (h : ∀ v' w', Wt Y w' v' l → w.grownBy w' none → (∀ g, v'.ownBlock = some g → w.heap.size ≤ g) → wpList Try.prog ops Q rest (a.put o.dst v') w') : wpList Try.prog ops Q (o :: rest) a w := by
  refine wpList_plain hgd fun K hK => ?_
  obtain ⟨v', w', hr, h2, h3, h4⟩ := run_copy_wt Y hY t o.type i z bytes ht hi hz hsize hby hb1 hzs hw h63
  unfold Oper.wp execOp
  simp only [ho, resolve, invoke, builtin, Sem.run_bind, Sem.run_pure, Result.andThen_ok, List.map_toArray, List.map_cons, List.map_nil, hs, hx, hr]
  exact hK _ _ (h v' w' h2 h3 h4)
end
/-- lines alone, in a block of their own -/
structure LA (Y : Ly) (w : World) (B lb cap : Nat) (vs : List Value) (l : List Ln) : Prop where
  cap1 : l.length ≤ cap
  cap2 : cap ≤ 9223372036854775807
  bl : ∃ cur, w.heap[lb]? = some (.cells cur Y.tl (0, 0)) ∧ ∀ i x v, l[i]? = some x → vs[i]? = some v → LnC cur (i * 6) x v
  vl : vs.length = l.length
  wt : ∀ (i : Nat) x v, l[i]? = some x → vs[i]? = some v → Wt Y w v x.wt
  lb0 : B ≤ lb
  sv : ∀ (i : Nat) v g, vs[i]? = some v → v.ownBlock = some g → B ≤ g ∧ g ≠ lb
  ap : ∀ (i j : Nat) v v' g, vs[i]? = some v → vs[j]? = some v' → v.ownBlock = some g → v'.ownBlock = some g → i = j
/-- a copy under way: the first k lines have a slice of their own -/
structure CP (Y : Ly) (w : World) (B lb cap : Nat) (vs us : List Value) (l : List Ln) (k : Nat) : Prop where
  cap1 : l.length ≤ cap
  cap2 : cap ≤ 9223372036854775807
  bl : ∃ cur, w.heap[lb]? = some (.cells cur Y.tl (0, 0)) ∧ ∀ i x v, l[i]? = some x → us[i]? = some v → LnC cur (i * 6) x v
  vl : us.length = l.length
  wt : ∀ (i : Nat) x v, i < k → l[i]? = some x → us[i]? = some v → Wt Y w v x.wt
  lb0 : B ≤ lb
  sv : ∀ (i : Nat) v g, i < k → us[i]? = some v → v.ownBlock = some g → B ≤ g ∧ g ≠ lb
  ap : ∀ (i j : Nat) v v' g, i < k → j < k → us[i]? = some v → us[j]? = some v' → v.ownBlock = some g → v'.ownBlock = some g → i = j
  old : ∀ i, k ≤ i → us[i]? = vs[i]?
theorem CP.lt {Y : Ly} {w : World} {B lb cap : Nat} {vs us : List Value} {l : List Ln} {k : Nat} (h : CP Y w B lb cap vs us l k) : lb < w.heap.size := by
  obtain ⟨cur, e, _⟩ := h.bl
  exact (Array.getElem?_eq_some_iff.1 e).1
theorem CP.wlt {Y : Ly} {w : World} {B lb cap : Nat} {vs us : List Value} {l : List Ln} {k : Nat} (h : CP Y w B lb cap vs us l k) {i : Nat} {v : Value} {g : Nat} (hi : i < k) (hv : us[i]? = some v) (hg : v.ownBlock = some g) : g < w.heap.size := by
  have hl : i < l.length := by rw [← h.vl]; exact (List.getElem?_eq_some_iff.1 hv).1
  obtain ⟨_, _, _, _, _, q⟩ := (h.wt i _ v hi (List.getElem?_eq_getElem hl) hv).form
  exact q g hg
theorem CP.done {Y : Ly} {w : World} {B lb cap : Nat} {vs us : List Value} {l : List Ln} (h : CP Y w B lb cap vs us l l.length) : LA Y w B lb cap us l :=
  have lt : ∀ (i : Nat) (v : Value), us[i]? = some v → i < l.length := fun i v hv => by rw [← h.vl]; exact (List.getElem?_eq_some_iff.1 hv).1
  ⟨h.cap1, h.cap2, h.bl, h.vl, fun i x v hx hv => h.wt i x v (lt i v hv) hx hv, h.lb0, fun i v g hv hg => h.sv i v g (lt i v hv) hv hg, fun i j v v' g h1 h2 h3 h4 => h.ap i j v v' g (lt i v h1) (lt j v' h2) h1 h2 h3 h4⟩
/-- line k has got its own -/
theorem CP.step {Y : Ly} {w w1 : World} {B lb cap : Nat} {vs us : List Value} {l : List Ln} {k : Nat} (h : CP Y w B lb cap vs us l k) {x : Ln} {v' : Value} (hx : l[k]? = some x) (hB : B ≤ w.heap.size) (hw : Wt Y w1 v' x.wt) (gr : w.grownBy w1 none) (hg : ∀ g, v'.ownBlock = some g → w.heap.size ≤ g) :
    CP Y (w1.setCell ⟨lb, k * 6 + 4, none⟩ v') B lb cap vs (us.set k v') l (k + 1) := by
  have hk := (List.getElem?_eq_some_iff.1 hx).1
  have hku : k < us.length := by rw [h.vl]; exact hk
  have hoth : ∀ j, j ≠ lb → (w1.setCell ⟨lb, k * 6 + 4, none⟩ v').heap[j]? = w1.heap[j]? := fun j hj => Deep.blk_setCell_other _ _ _ _ hj
  have old : ∀ j, j < w.heap.size → w1.heap[j]? = w.heap[j]? := fun j hj => gr.block j hj (by simp)
  have hlt := h.lt
  have get : ∀ i, (us.set k v')[i]? = if k = i then some v' else us[i]? := fun i => by
    by_cases e : k = i
    · subst e; rw [if_pos rfl, List.getElem?_set_self hku]
    · rw [if_neg e, List.getElem?_set_ne e]
  refine ⟨h.cap1, h.cap2, ?_, by simp [h.vl], fun i y u hi hy hu => ?_, h.lb0, fun i u g hi hu hg' => ?_, fun i j u u' g hi hj hu hu' h1 h2 => ?_, fun i hi => by rw [get, if_neg (by omega)]; exact h.old i (by omega)⟩
  · obtain ⟨cur, e1, e2⟩ := h.bl
    refine ⟨_, blk_setCell _ _ _ _ ((old lb hlt).trans e1), fun i y u hy hu => ?_⟩
    rw [get] at hu
    by_cases e : k = i
    · subst e
      rw [if_pos rfl] at hu
      cases hu
      rw [hx] at hy; cases hy
      have e3 := e2 k x _ hx (List.getElem?_eq_getElem hku)
      exact (e3.set4 (by have := (Array.getElem?_eq_some_iff.1 e3.c5).1; omega) x.wt v')
    · rw [if_neg e] at hu
      obtain ⟨a, b, c, d, e4, f⟩ := e2 i y u hy hu
      constructor <;> rw [Array.getElem?_setIfInBounds, if_neg (by omega)] <;> assumption
  · rw [get] at hu
    by_cases e : k = i
    · subst e
      rw [if_pos rfl] at hu
      cases hu
      rw [hx] at hy; cases hy
      exact hw.of_block fun g hg' => hoth g (by have := hg g hg'; omega)
    · rw [if_neg e] at hu
      exact (h.wt i y u (by omega) hy hu).of_block fun g hg' => (hoth g (h.sv i u g (by omega) hu hg').2).trans (old g (h.wlt (by omega) hu hg'))
  · rw [get] at hu
    by_cases e : k = i
    · rw [if_pos e] at hu
      cases hu
      have := hg g hg'
      exact ⟨by omega, by omega⟩
    · rw [if_neg e] at hu
      exact h.sv i u g (by omega) hu hg'
  · rw [get] at hu hu'
    by_cases e : k = i
    · by_cases e' : k = j
      · omega
      · rw [if_pos e] at hu
        rw [if_neg e'] at hu'
        cases hu
        have := hg g h1
        have := h.wlt (by omega) hu' h2
        omega
    · rw [if_neg e] at hu
      by_cases e' : k = j
      · rw [if_pos e'] at hu'
        cases hu'
        have := hg g h2
        have := h.wlt (by omega) hu h1
        omega
      · rw [if_neg e'] at hu'
        exact h.ap i j u u' g (by omega) (by omega) hu hu' h1 h2
theorem LA.keep {Y : Ly} {w w' : World} {B lb cap : Nat} {vs : List Value} {l : List Ln} (h : LA Y w B lb cap vs l) (hb : ∀ k, B ≤ k → k < w.heap.size → w'.heap[k]? = w.heap[k]?) : LA Y w' B lb cap vs l := by
  obtain ⟨cur, e1, e2⟩ := h.bl
  refine ⟨h.cap1, h.cap2, ⟨cur, (hb lb h.lb0 (Array.getElem?_eq_some_iff.1 e1).1).trans e1, e2⟩, h.vl, fun i x v hx hv => (h.wt i x v hx hv).of_block fun g hg => ?_, h.lb0, h.sv, h.ap⟩
  obtain ⟨_, _, _, _, _, q⟩ := (h.wt i x v hx hv).form
  exact hb g (h.sv i v g hv hg).1 (q g hg)
/-- a plan takes lines that were kept aside -/
theorem LA.plan {Y : Ly} {w : World} {B lb cap p : Nat} {vs : List Value} {l : List Ln} {now : Int} {S : Nat → Prop} (h : LA Y w B lb cap vs l) (hp : w.heap[p]? = some (.cells #[.slice (some ⟨lb, 0, none⟩) l.length cap, .int .i64 now] Y.tp (0, 0))) (hpB : p < B) (sp : S p) (hS : ∀ k, B ≤ k → k < w.heap.size → S k) (hz : ∀ k, S k → k < w.heap.size) :
    PAx Y w S p lb cap vs ⟨l, now⟩ := by
  obtain ⟨cur, e1, e2⟩ := h.bl
  have lblt := (Array.getElem?_eq_some_iff.1 e1).1
  refine ⟨hp, h.cap1, h.cap2, ⟨cur, e1, e2⟩, h.vl, h.wt, sp, hS lb h.lb0 lblt, by have := h.lb0; omega, fun i v g hv hg => ?_, h.ap, hz⟩
  have hl : i < l.length := by rw [← h.vl]; exact (List.getElem?_eq_some_iff.1 hv).1
  obtain ⟨_, _, _, _, _, q⟩ := (h.wt i _ v (List.getElem?_eq_getElem hl) hv).form
  have := h.sv i v g hv hg
  exact ⟨hS g this.1 (q g hg), by omega, this.2⟩
end Go.Proofs.Ytgdkmakmdomdbaa
