import Derived.Test.YtdngkeefbpffcaaFlO
import Derived.Orders
set_option autoImplicit false
set_option linter.unusedVariables false
namespace Lk
open Go Go.RowKit
theorem putAll_full {c : Array Value} {l : List Value} (h : c.size = l.length) : putAll c 0 l = l.toArray := by
  apply Array.ext_getElem?
  intro k
  rw [putAll_get l c 0 k (by omega)]
  by_cases hk : k < l.length
  · rw [if_pos (by omega)]; simp
  · rw [if_neg (by omega), Array.getElem?_eq_none (by omega)]; simp; omega
/-! A region whose order is open: what only reads is taken first (J: what the reads need, kept by all others), the rest in whatever order. -/
section
variable {P : Program} {ops : Array Oper} {md : Region.Mode} {J : World → Prop} {Q : Exit → Act → World → Prop}
def YieldsJ (P : Program) (ops : Array Oper) (J : World → Prop) (o : Oper) (v : Value) (a : Act) : Prop :=
  (Region.wanted o (yielded ops a.tmps) = true ∧ ∀ w, J w → (execOp a.eval o).run P w = .ok (.value v) w) ∨ (Region.wanted o (yielded ops a.tmps) = false ∧ v = undef)
def opJ (P : Program) (J : World → Prop) (o : Oper) (a : Act) (w : World) (K : Act → World → Prop) : Prop :=
  match (execOp a.eval o).run P w with
  | .ok (.value v) w' => J w' ∧ K (a.put o.dst v) w'
  | .ok .skip w' => J w' ∧ K (a.put o.dst undef) w'
  | .ok (.defer d) w' => J w' ∧ K ({ a with defers := d :: a.defers }.put o.dst undef) w'
  | .ok (.enter f args) w' => Calls P f args w' fun e w'' => ∃ v, e = .returned v ∧ J w'' ∧ K (a.put o.dst v) w''
  | .ok (.row row args) w' => Rows P row args w' fun v w'' => J w'' ∧ K (a.put o.dst v) w''
  | _ => False
theorem defers_put (a : Act) (x : Option Tmp) (v : Value) (d : Deferred) : ({ a.put x v with defers := d :: (a.put x v).defers } : Act) = ({ a with defers := d :: a.defers } : Act).put x v := by
  cases x <;> rfl
def jOp (P : Program) (ops : Array Oper) (J : World → Prop) (i : Nat) (K : Act → World → Prop) (a : Act) (w : World) : Prop :=
  match ops[i]? with
  | none => K a w
  | some o => if Region.wanted o (yielded ops a.tmps) then opJ P J o a w K else K (a.put o.dst undef) w
theorem opJ_mono {o : Oper} {a : Act} {w : World} {K K' : Act → World → Prop} (h : ∀ a w, J w → K a w → K' a w) (hh : opJ P J o a w K) : opJ P J o a w K' := by
  unfold opJ at *
  generalize (execOp a.eval o).run P w = r at *
  cases r with
  | ok n w' =>
    cases n <;> simp only at hh ⊢
    case enter f args => exact hh.mono fun e w'' ⟨v, he, hj, hk⟩ => ⟨v, he, hj, h _ _ hj hk⟩
    case row r args => exact Rows.mono hh (fun v w'' ⟨hj, hk⟩ => ⟨hj, h _ _ hj hk⟩)
    all_goals exact ⟨hh.1, h _ _ hh.1 hh.2⟩
  | halt x w' => simp only at hh
theorem jOp_mono {i : Nat} {a : Act} {w : World} {K K' : Act → World → Prop} (hw : J w) (h : ∀ a w, J w → K a w → K' a w) (hh : jOp P ops J i K a w) : jOp P ops J i K' a w := by
  unfold jOp at *
  split
  · exact h _ _ hw (by simpa [*] using hh)
  · rename_i o ho
    simp only [ho] at hh
    split
    · rename_i hwd; simp only [hwd, if_true] at hh; exact opJ_mono h hh
    · rename_i hwd; simp only [hwd] at hh; exact h _ _ hw hh
theorem wp_of_opJ {o : Oper} {a : Act} {w : World} {K : Act → World → Prop} (hh : opJ P J o a w K) : o.wp P a w K Q := by
  unfold opJ at hh
  unfold Oper.wp
  generalize (execOp a.eval o).run P w = r at *
  cases r with
  | ok n w' =>
    cases n <;> simp only at hh <;> simp only [Oper.upon]
    case enter f args => exact hh.mono fun e w'' ⟨v, he, hj, hk⟩ => by subst he; exact hk
    case row r args => exact Rows.mono hh (fun v w'' h => h.2)
    all_goals exact hh.2
  | halt x w' => simp only at hh
theorem wpOp_of_jOp {i : Nat} {a : Act} {w : World} {K : Act → World → Prop} (hh : jOp P ops J i K a w) : wpOp P ops Q i K a w := by
  unfold jOp at hh
  unfold wpOp
  split
  · rename_i ho; simpa [ho] using hh
  · rename_i o ho
    simp only [ho] at hh
    split
    · rename_i hwd; simp only [hwd, if_true] at hh; exact .inl (wp_of_opJ hh)
    · rename_i hwd; simpa [hwd] using hh
/-- all orders, J kept -/
def wpAnyJ (P : Program) (md : Region.Mode) (ops : Array Oper) (J : World → Prop) (Q : Act → World → Prop) : Nat → Array Bool → Act → World → Prop
  | 0, listed, a, w => Region.ready md ops listed = [] ∧ Q a w
  | fuel + 1, listed, a, w =>
    (Region.ready md ops listed = [] → Q a w) ∧ ∀ i ∈ Region.ready md ops listed, jOp P ops J i (wpAnyJ P md ops J Q fuel (listed.setIfInBounds i true)) a w
theorem wpAny_of_J {Q' : Act → World → Prop} (hQ : ∀ a w, Q' a w → Q .normal a w) : ∀ (fuel : Nat) (listed : Array Bool) (a : Act) (w : World), J w → wpAnyJ P md ops J Q' fuel listed a w → wpAny P md ops Q fuel listed a w
  | 0, _, _, _, _, h => ⟨h.1, hQ _ _ h.2⟩
  | fuel + 1, _, _, w, hw, h => ⟨fun h0 => hQ _ _ (h.1 h0), fun i hi => wpOp_of_jOp (J := J) (jOp_mono hw (fun a' w' hj hk => wpAny_of_J hQ fuel _ a' w' hj hk) (h.2 i hi))⟩
theorem YieldsJ.of_same {o : Oper} {v : Value} {a a' : Act} (hy : YieldsJ P ops J o v a) (he : execOp a'.eval o = execOp a.eval o)
    (hw : Region.wanted o (yielded ops a'.tmps) = Region.wanted o (yielded ops a.tmps)) : YieldsJ P ops J o v a' := by
  unfold YieldsJ at *
  rw [he, hw]; exact hy
theorem YieldsJ.jOp {i : Nat} {o : Oper} {v : Value} {a : Act} {w : World} (hi : ops[i]? = some o) (hy : YieldsJ P ops J o v a) (hw : J w) {K : Act → World → Prop} (h : K (a.put o.dst v) w) : jOp P ops J i K a w := by
  unfold Lk.jOp
  simp only [hi]
  rcases hy with ⟨h1, hv⟩ | ⟨h1, rfl⟩
  · simp only [h1, if_true, opJ, hv w hw]; exact ⟨hw, h⟩
  · simp only [h1, Bool.false_eq_true, if_false]; exact h
theorem jOp_swap {j : Nat} {oi oj : Oper} (hj : ops[j]? = some oj) (hap : oi.apart ops oj = true) (hsj : ∀ cs b, oj.op ≠ .select cs b)
    {v : Value} {a : Act} {w : World} {K : Act → World → Prop} (h : jOp P ops J j K (a.put oi.dst v) w) : jOp P ops J j (fun a' w' => K (a'.put oi.dst v) w') a w := by
  obtain ⟨h1, h2, h3⟩ := Oper.apart_spec hap
  have e1 := execOp_put oj hsj a oi.dst v h1
  have e2 := wanted_put oj a oi.dst v h1
  have e3 : ∀ u, (a.put oi.dst v).put oj.dst u = (a.put oj.dst u).put oi.dst v := fun u => Act.put_comm a v u h2
  unfold jOp at *
  simp only [hj] at h ⊢
  rw [e2] at h
  split
  · rename_i hw
    rw [if_pos hw] at h
    unfold opJ at *
    rw [e1] at h
    generalize (execOp a.eval oj).run P w = r at *
    cases r with
    | ok n w' =>
      cases n <;> simp only at h ⊢
      case enter f args => exact h.mono fun e w'' ⟨u, he, hjj, hk⟩ => ⟨u, he, hjj, by rw [← e3]; exact hk⟩
      case row r args => exact Rows.mono h (fun u w'' ⟨hjj, hk⟩ => ⟨hjj, by rw [← e3]; exact hk⟩)
      case defer d => exact ⟨h.1, by have := h.2; rw [defers_put, Act.put_comm _ v undef h2] at this; exact this⟩
      all_goals exact ⟨h.1, by rw [← e3]; exact h.2⟩
    | halt x w' => simp only at h
  · rename_i hw
    rw [if_neg hw] at h
    rw [← e3]; exact h
theorem wpAnyJ_first {Q : Act → World → Prop} {i : Nat} {oi : Oper} {v : Value} (hi : ops[i]? = some oi) (hsel : ∀ (j : Nat) (o : Oper) cs b, ops[j]? = some o → o.op ≠ .select cs b) :
    ∀ (fuel : Nat) (listed : Array Bool) (a : Act) (w : World), J w →
      (∀ j oj, ops[j]? = some oj → j ≠ i → listed.getD j true = false → (∀ e ∈ oj.after, Region.binds md e = true → e.on ≠ i) → oi.apart ops oj = true) →
      i ∈ Region.ready md ops listed → YieldsJ P ops J oi v a →
      wpAnyJ P md ops J Q fuel (listed.setIfInBounds i true) (a.put oi.dst v) w → wpAnyJ P md ops J Q (fuel + 1) listed a w := by
  intro fuel
  induction fuel with
  | zero =>
    intro listed a w hw _ hr hy H
    refine ⟨fun h => (by rw [h] at hr; cases hr), fun j hj => ?_⟩
    by_cases hji : j = i
    · subst hji; exact hy.jOp hi hw H
    · have := ready_mono hj hji
      rw [H.1] at this
      cases this
  | succ fuel ih =>
    intro listed a w hw hfree hr hy H
    refine ⟨fun h => (by rw [h] at hr; cases hr), fun j hj => ?_⟩
    by_cases hji : j = i
    · subst hji; exact hy.jOp hi hw H
    · have h1 := H.2 j (ready_mono hj hji)
      obtain ⟨hjun, oj, hoj, hall⟩ := mem_ready.1 hj
      have hun := (mem_ready.1 hr).1
      have hnot : ∀ e ∈ oj.after, Region.binds md e = true → e.on ≠ i := fun e he hb heq => by
        have h1 := hall e he hb
        rw [heq, getD_both hun] at h1
        cases h1
      have hap := hfree j oj hoj hji hjun hnot
      have h2 := jOp_swap hoj hap (fun cs b => hsel j oj cs b hoj) h1
      have hfree' : ∀ k ok, ops[k]? = some ok → k ≠ i → (listed.setIfInBounds j true).getD k true = false →
          (∀ e ∈ ok.after, Region.binds md e = true → e.on ≠ i) → oi.apart ops ok = true := fun k ok hk hki hun hno => by
        refine hfree k ok hk hki ?_ hno
        by_cases hjk : j = k
        · subst hjk; exact hjun
        · rw [getD_set_ne true hjk] at hun; exact hun
      obtain ⟨_, _, h3⟩ := Oper.apart_spec hap
      have key0 : ∀ (a0 : Act) u a' w', YieldsJ P ops J oi v a0 → a' = a0.put oj.dst u → J w' → wpAnyJ P md ops J Q fuel ((listed.setIfInBounds i true).setIfInBounds j true) (a'.put oi.dst v) w' → wpAnyJ P md ops J Q (fuel + 1) (listed.setIfInBounds j true) a' w' := by
        intro a0 u a' w' hy e hj' hk
        subst e
        refine ih (listed.setIfInBounds j true) _ w' hj' hfree' (ready_mono hr (Ne.symm hji)) (hy.of_same (execOp_put oi (fun cs b => hsel i oi cs b hi) a0 oj.dst u h3) (wanted_put oi a0 oj.dst u h3)) ?_
        rw [Array.setIfInBounds_comm _ _ hji]
        exact hk
      have key : ∀ u a' w', a' = a.put oj.dst u → J w' → wpAnyJ P md ops J Q fuel ((listed.setIfInBounds i true).setIfInBounds j true) (a'.put oi.dst v) w' → wpAnyJ P md ops J Q (fuel + 1) (listed.setIfInBounds j true) a' w' := fun u a' w' e hj' hk => key0 a u a' w' hy e hj' hk
      unfold jOp at h2 ⊢
      simp only [hoj] at h2 ⊢
      split
      · rename_i hwd
        rw [if_pos hwd] at h2
        unfold opJ at *
        generalize (execOp a.eval oj).run P w = r at *
        cases r with
        | ok n w' =>
          cases n <;> simp only at h2 ⊢
          case enter f args => exact h2.mono fun e w'' ⟨u, he, hjj, hk⟩ => ⟨u, he, hjj, key u _ _ rfl hjj hk⟩
          case value u => exact ⟨h2.1, key u _ _ rfl h2.1 h2.2⟩
          case skip => exact ⟨h2.1, key undef _ _ rfl h2.1 h2.2⟩
          case row r args => exact Rows.mono h2 (fun u w'' ⟨hjj, hk⟩ => ⟨hjj, key u _ _ rfl hjj hk⟩)
          case defer d => exact ⟨h2.1, key0 { a with defers := d :: a.defers } undef _ _ hy rfl h2.1 h2.2⟩
        | halt x w' => simp only at h2
      · rename_i hwd
        rw [if_neg hwd] at h2
        exact key undef _ _ rfl hw h2
/-- AT THE REGION -/
theorem wp_region_J {id : Nat} {a : Act} {w : World} {l : List Oper} (n : Nat) (J : World → Prop) (hm : P.follows .mixedOrders = true) (hn : l.length = n) (hs : Region.noSelect l.toArray = true) (hJ : J { w with drawn := w.drawn + 1 })
    (h : ∀ w1, J w1 → Region.noSelect l.toArray = true → wpAnyJ P .any l.toArray J (fun a' w' => Q .normal a' w') n (Array.replicate n false) a w1) : (Code.region id l.toArray true).wp P Q a w := by
  refine wp_region_any hm (wpAny_of_J (J := J) (Q' := fun a' w' => Q .normal a' w') (fun _ _ h => h) _ _ _ _ hJ ?_)
  have := h _ hJ hs
  subst hn
  simpa using this
/-- what reads, first -/
theorem j_take {Q : Act → World → Prop} {fuel : Nat} {listed : Array Bool} {a : Act} {w : World} (i : Nat) (o : Oper) (v : Value) (hs : Region.noSelect ops = true) (hi : ops[i]? = some o) (hg : o.guard = none)
    (hr : (Region.ready md ops listed).contains i = true) (hf : Region.free md ops listed i = true) (hw : J w)
    (hv : ∀ w, J w → (execOp a.eval o).run P w = .ok (.value v) w)
    (h : wpAnyJ P md ops J Q fuel (listed.setIfInBounds i true) (a.put o.dst v) w) : wpAnyJ P md ops J Q (fuel + 1) listed a w :=
  wpAnyJ_first hi (Region.noSelect_spec hs) fuel listed a w hw (Region.free_spec hi hf) (by simpa using hr) (.inl ⟨by simp [Region.wanted, hg], hv⟩) h
/-- .. behind a guard that lets it in -/
theorem j_take2 {Q : Act → World → Prop} {fuel : Nat} {listed : Array Bool} {a : Act} {w : World} (i : Nat) (o : Oper) (v : Value) (hs : Region.noSelect ops = true) (hi : ops[i]? = some o)
    (hr : (Region.ready md ops listed).contains i = true) (hf : Region.free md ops listed i = true) (hw : J w) (hwd : Region.wanted o (yielded ops a.tmps) = true)
    (hv : ∀ w, J w → (execOp a.eval o).run P w = .ok (.value v) w)
    (h : wpAnyJ P md ops J Q fuel (listed.setIfInBounds i true) (a.put o.dst v) w) : wpAnyJ P md ops J Q (fuel + 1) listed a w :=
  wpAnyJ_first hi (Region.noSelect_spec hs) fuel listed a w hw (Region.free_spec hi hf) (by simpa using hr) (.inl ⟨hwd, hv⟩) h
/-- .. behind a guard that does not -/
theorem j_skip {Q : Act → World → Prop} {fuel : Nat} {listed : Array Bool} {a : Act} {w : World} (i : Nat) (o : Oper) (hs : Region.noSelect ops = true) (hi : ops[i]? = some o)
    (hr : (Region.ready md ops listed).contains i = true) (hf : Region.free md ops listed i = true) (hw : J w) (hwd : Region.wanted o (yielded ops a.tmps) = false)
    (h : wpAnyJ P md ops J Q fuel (listed.setIfInBounds i true) (a.put o.dst undef) w) : wpAnyJ P md ops J Q (fuel + 1) listed a w :=
  wpAnyJ_first hi (Region.noSelect_spec hs) fuel listed a w hw (Region.free_spec hi hf) (by simpa using hr) (.inr ⟨hwd, rfl⟩) h
theorem jOp_of_list {i : Nat} {o : Oper} {a : Act} {w : World} {K : Act → World → Prop} (hi : ops[i]? = some o) (h : wpList P ops (fun ex a' w' => ex = .normal ∧ J w' ∧ K a' w') [o] a w) : jOp P ops J i K a w := by
  unfold jOp
  simp only [hi]
  unfold wpList at h
  split
  · rename_i hwd
    rw [if_pos hwd] at h
    rcases h with h | ⟨_, h⟩
    · unfold Oper.wp at h
      unfold opJ
      generalize (execOp a.eval o).run P w = r at *
      cases r with
      | ok n w' =>
        cases n <;> simp only [Oper.upon, wpList] at h ⊢
        case value v => exact h.2
        case skip => exact h.2
        case enter f args =>
          refine Calls.mono h (fun e w'' he => ?_)
          cases e with
          | returned v => exact ⟨v, rfl, he.2⟩
          | panicked c => exact absurd he.1 (by simp)
          | outgrown => obtain ⟨_, _, h1, _⟩ := he; cases h1
        case defer d => exact h.2
        case row r args => exact Rows.mono h (fun v w'' hh => hh.2)
      | halt x w' => cases x <;> simp only [Oper.upon] at h <;> exact absurd h.1 (by simp)
    · obtain ⟨_, _, h1, _⟩ := h; cases h1
  · rename_i hwd
    rw [if_neg hwd] at h
    unfold wpList at h
    exact h.2.2
/-- the rest, one by one: the only one that is ready -/
theorem j_one {Q : Act → World → Prop} {fuel : Nat} {listed : Array Bool} {a : Act} {w : World} (i : Nat) (o : Oper) (hi : ops[i]? = some o) (hr : Region.ready md ops listed = [i]) (hw : J w)
    (h : wpList P ops (fun ex a' w' => ex = .normal ∧ J w' ∧ wpAnyJ P md ops J Q fuel (listed.setIfInBounds i true) a' w') [o] a w) : wpAnyJ P md ops J Q (fuel + 1) listed a w := by
  refine ⟨fun h0 => (by rw [hr] at h0; cases h0), fun j hj => ?_⟩
  rw [hr] at hj
  rw [List.mem_singleton.1 hj]
  exact jOp_of_list hi h
/-- .. one of two that are ready -/
theorem j_two {Q : Act → World → Prop} {fuel : Nat} {listed : Array Bool} {a : Act} {w : World} (i k : Nat) (o u : Oper) (hi : ops[i]? = some o) (hk : ops[k]? = some u) (hr : Region.ready md ops listed = [i, k]) (hw : J w)
    (h : wpList P ops (fun ex a' w' => ex = .normal ∧ J w' ∧ wpAnyJ P md ops J Q fuel (listed.setIfInBounds i true) a' w') [o] a w)
    (h2 : wpList P ops (fun ex a' w' => ex = .normal ∧ J w' ∧ wpAnyJ P md ops J Q fuel (listed.setIfInBounds k true) a' w') [u] a w) : wpAnyJ P md ops J Q (fuel + 1) listed a w := by
  refine ⟨fun h0 => (by rw [hr] at h0; cases h0), fun j hj => ?_⟩
  rw [hr] at hj
  rcases List.mem_cons.1 hj with rfl | hj
  · exact jOp_of_list hi h
  · rw [List.mem_singleton.1 hj]
    exact jOp_of_list hk h2
theorem j_done {Q : Act → World → Prop} {listed : Array Bool} {a : Act} {w : World} (hr : Region.ready md ops listed = []) (h : Q a w) : wpAnyJ P md ops J Q 0 listed a w := ⟨hr, h⟩
end
end Lk
