import Derived.StillTail
import Derived.Deep.Draws
import Derived.KernelRfl
set_option autoImplicit false
namespace Lk
open Go
/-! A region whose order is open: its operations read, reckon (a NaN's bits left open), call what hands back one of a set: whatever the order, what the order of the text says holds. C: the worlds that may stand there; T: what a callee may hand back. -/
section
variable {P : Program} {ops : Array Oper} {md : Region.Mode} {C : World → Prop} {T : FuncId → Array Value → Value → Prop}

def safeUpon (P : Program) (C : World → Prop) (T : FuncId → Array Value → Value → Prop) : Result Next → Prop
  | .ok (.value _) w' => C w'
  | .ok .skip w' => C w'
  | .ok (.enter f args) w' => Calls P f args w' (fun e w'' => ∃ u, e = .returned u ∧ T f args u ∧ C w'')
  | _ => False
def possUpon (T : FuncId → Array Value → Value → Prop) (u : Value) : Result Next → Prop
  | .ok (.value v) _ => u = v
  | .ok .skip _ => u = undef
  | .ok (.enter f args) _ => T f args u
  | _ => False
def safe (P : Program) (C : World → Prop) (T : FuncId → Array Value → Value → Prop) (o : Oper) (a : Act) : Prop := ∀ w, C w → safeUpon P C T ((execOp a.eval o).run P w)
def poss (P : Program) (C : World → Prop) (T : FuncId → Array Value → Value → Prop) (o : Oper) (a : Act) (u : Value) : Prop := ∃ w, C w ∧ possUpon T u ((execOp a.eval o).run P w)

def both (P : Program) (C : World → Prop) (T : FuncId → Array Value → Value → Prop) (o : Oper) (a : Act) (K : Act → Prop) : Prop := safe P C T o a ∧ ∀ u, poss P C T o a u → K (a.put o.dst u)

def wpSet (P : Program) (ops : Array Oper) (C : World → Prop) (T : FuncId → Array Value → Value → Prop) (Q : Act → Prop) : List Oper → Act → Prop
  | [], a => Q a
  | o :: rest, a => if Region.wanted o (yielded ops a.tmps) then both P C T o a (wpSet P ops C T Q rest) else wpSet P ops C T Q rest (a.put o.dst undef)

def sOp (P : Program) (ops : Array Oper) (C : World → Prop) (T : FuncId → Array Value → Value → Prop) (i : Nat) (K : Act → Prop) (a : Act) : Prop :=
  match ops[i]? with
  | none => K a
  | some o => if Region.wanted o (yielded ops a.tmps) then both P C T o a K else K (a.put o.dst undef)

theorem both_mono {o : Oper} {a : Act} {K K' : Act → Prop} (h : ∀ a, K a → K' a) (hh : both P C T o a K) : both P C T o a K' := ⟨hh.1, fun u hu => h _ (hh.2 u hu)⟩
theorem sOp_mono {i : Nat} {a : Act} {K K' : Act → Prop} (h : ∀ a, K a → K' a) (hh : sOp P ops C T i K a) : sOp P ops C T i K' a := by
  unfold sOp at *
  split
  · exact h _ (by simpa [*] using hh)
  · rename_i o ho
    simp only [ho] at hh
    split
    · rename_i hw; simp only [hw, if_true] at hh; exact both_mono h hh
    · rename_i hw; simp only [hw] at hh; exact h _ hh

/-- what may come up is there -/
theorem poss_some (hC : ∃ w, C w) {o : Oper} {a : Act} (h : safe P C T o a) : ∃ u, poss P C T o a u := by
  obtain ⟨w, hw⟩ := hC
  have hs := h w hw
  cases hr : (execOp a.eval o).run P w with
  | ok n w' =>
    rw [hr] at hs
    cases n <;> simp only [safeUpon] at hs
    case value v => exact ⟨v, w, hw, by rw [hr]; rfl⟩
    case skip => exact ⟨undef, w, hw, by rw [hr]; rfl⟩
    case enter f args =>
      obtain ⟨e, w'', fr, ⟨u, _, ht, _⟩, _⟩ := hs []
      exact ⟨u, w, hw, by rw [hr]; exact ht⟩
  | halt x w' => rw [hr] at hs; exact hs.elim

theorem wp_of_both {o : Oper} {a : Act} {K : Act → Prop} {K' : Act → World → Prop} {Q' : Exit → Act → World → Prop} {w : World} (hw : C w) (h : ∀ a w', C w' → K a → K' a w') (hh : both P C T o a K) : o.wp P a w K' Q' := by
  obtain ⟨h1, h2⟩ := hh
  have hs := h1 w hw
  have hp : ∀ u, possUpon T u ((execOp a.eval o).run P w) → K (a.put o.dst u) := fun u hu => h2 u ⟨w, hw, hu⟩
  unfold Oper.wp
  generalize (execOp a.eval o).run P w = r at *
  cases r with
  | ok n w' =>
    cases n <;> simp only [safeUpon] at hs <;> simp only [Oper.upon]
    case value v => exact h _ _ hs (hp v rfl)
    case skip => exact h _ _ hs (hp undef rfl)
    case enter f args =>
      refine hs.mono fun e w'' ⟨u, he, ht, hc⟩ => ?_
      subst he
      exact h _ _ hc (hp u ht)
  | halt x w' => exact hs.elim

theorem wpOp_of_sOp {i : Nat} {a : Act} {K : Act → Prop} {K' : Act → World → Prop} {Q' : Exit → Act → World → Prop} {w : World} (hC : C w) (h : ∀ a w', C w' → K a → K' a w') (hh : sOp P ops C T i K a) : wpOp P ops Q' i K' a w := by
  unfold sOp at hh
  unfold wpOp
  split
  · rename_i ho; simp only [ho] at hh; exact h _ _ hC hh
  · rename_i o ho
    simp only [ho] at hh
    split
    · rename_i hw; simp only [hw, if_true] at hh; exact .inl (wp_of_both hC h hh)
    · rename_i hw; simp only [hw] at hh; exact h _ _ hC hh

/-- what operation 'o' may leave in state 'a' -/
def may (P : Program) (ops : Array Oper) (C : World → Prop) (T : FuncId → Array Value → Value → Prop) (o : Oper) (a : Act) (u : Value) : Prop :=
  (Region.wanted o (yielded ops a.tmps) = true ∧ poss P C T o a u) ∨ (Region.wanted o (yielded ops a.tmps) = false ∧ u = undef)
def fine (P : Program) (ops : Array Oper) (C : World → Prop) (T : FuncId → Array Value → Value → Prop) (o : Oper) (a : Act) : Prop :=
  Region.wanted o (yielded ops a.tmps) = true → safe P C T o a

theorem sOp_iff {i : Nat} {o : Oper} {a : Act} {K : Act → Prop} (hi : ops[i]? = some o) : sOp P ops C T i K a ↔ fine P ops C T o a ∧ ∀ u, may P ops C T o a u → K (a.put o.dst u) := by
  unfold sOp fine may both
  simp only [hi]
  by_cases hw : Region.wanted o (yielded ops a.tmps) = true
  · simp [hw]
  · simp [hw]

theorem may_some (hC : ∃ w, C w) {o : Oper} {a : Act} (h : fine P ops C T o a) : ∃ u, may P ops C T o a u := by
  by_cases hw : Region.wanted o (yielded ops a.tmps) = true
  · obtain ⟨u, hu⟩ := poss_some hC (h hw); exact ⟨u, .inl ⟨hw, hu⟩⟩
  · exact ⟨undef, .inr ⟨by simpa using hw, rfl⟩⟩

theorem fine_same {o : Oper} {a a' : Act} (he : execOp a'.eval o = execOp a.eval o) (hw : Region.wanted o (yielded ops a'.tmps) = Region.wanted o (yielded ops a.tmps)) :
    (fine P ops C T o a' ↔ fine P ops C T o a) ∧ ∀ u, may P ops C T o a' u ↔ may P ops C T o a u := by
  unfold fine may safe poss
  rw [he, hw]
  exact ⟨Iff.rfl, fun _ => Iff.rfl⟩

/-- one operation taken ahead of another that is apart from it -/
theorem sOp_swap (hC : ∃ w, C w) {j : Nat} {oi oj : Oper} (hj : ops[j]? = some oj) (hap : oi.apart ops oj = true)
    (hsi : ∀ cs b, oi.op ≠ .select cs b) (hsj : ∀ cs b, oj.op ≠ .select cs b) {K : Act → Prop} {a : Act}
    (hf : fine P ops C T oi a) (h : ∀ v, may P ops C T oi a v → sOp P ops C T j K (a.put oi.dst v)) :
    sOp P ops C T j (fun a' => fine P ops C T oi a' ∧ ∀ v, may P ops C T oi a' v → K (a'.put oi.dst v)) a := by
  obtain ⟨h1, h2, h3⟩ := Oper.apart_spec hap
  have ej : ∀ v, (fine P ops C T oj (a.put oi.dst v) ↔ fine P ops C T oj a) ∧ ∀ u, may P ops C T oj (a.put oi.dst v) u ↔ may P ops C T oj a u :=
    fun v => fine_same (execOp_put oj hsj a oi.dst v h1) (wanted_put oj a oi.dst v h1)
  have ei : ∀ u, (fine P ops C T oi (a.put oj.dst u) ↔ fine P ops C T oi a) ∧ ∀ v, may P ops C T oi (a.put oj.dst u) v ↔ may P ops C T oi a v :=
    fun u => fine_same (execOp_put oi hsi a oj.dst u h3) (wanted_put oi a oj.dst u h3)
  rw [sOp_iff hj]
  obtain ⟨v0, hv0⟩ := may_some hC hf
  refine ⟨(ej v0).1.1 ((sOp_iff hj).1 (h v0 hv0)).1, fun u hu => ⟨(ei u).1.2 hf, fun v hv => ?_⟩⟩
  have hv' := ((ei u).2 v).1 hv
  have := ((sOp_iff hj).1 (h v hv')).2 u (((ej v).2 u).2 hu)
  rw [← Act.put_comm a v u h2]
  exact this

def wpAnyC (P : Program) (md : Region.Mode) (ops : Array Oper) (C : World → Prop) (T : FuncId → Array Value → Value → Prop) (Q : Act → Prop) : Nat → Array Bool → Act → Prop
  | 0, listed, a => Region.ready md ops listed = [] ∧ Q a
  | fuel + 1, listed, a =>
    (Region.ready md ops listed = [] → Q a) ∧
    ∀ i ∈ Region.ready md ops listed, sOp P ops C T i (wpAnyC P md ops C T Q fuel (listed.setIfInBounds i true)) a

theorem wpAny_of_set {Q : Act → Prop} {Q' : Exit → Act → World → Prop} (hQ : ∀ a w, C w → Q a → Q' .normal a w) : ∀ (fuel : Nat) (listed : Array Bool) (a : Act) (w : World), C w →
    wpAnyC P md ops C T Q fuel listed a → wpAny P md ops Q' fuel listed a w
  | 0, _, _, _, hw, h => ⟨h.1, hQ _ _ hw h.2⟩
  | fuel + 1, _, _, _, hw, h => ⟨fun h0 => hQ _ _ hw (h.1 h0), fun i hi => wpOp_of_sOp hw (fun a' w' hw' => wpAny_of_set hQ fuel _ a' w' hw') (h.2 i hi)⟩

theorem wpAnyC_first (hC : ∃ w, C w) {Q : Act → Prop} {i : Nat} {oi : Oper} (hi : ops[i]? = some oi) (hsel : ∀ (j : Nat) (o : Oper) cs b, ops[j]? = some o → o.op ≠ .select cs b) :
    ∀ (fuel : Nat) (listed : Array Bool) (a : Act),
      (∀ j oj, ops[j]? = some oj → j ≠ i → listed.getD j true = false → (∀ e ∈ oj.after, Region.binds md e = true → e.on ≠ i) → oi.apart ops oj = true) →
      i ∈ Region.ready md ops listed → fine P ops C T oi a →
      (∀ v, may P ops C T oi a v → wpAnyC P md ops C T Q fuel (listed.setIfInBounds i true) (a.put oi.dst v)) → wpAnyC P md ops C T Q (fuel + 1) listed a := by
  intro fuel
  induction fuel with
  | zero =>
    intro listed a _ hr hy H
    refine ⟨fun h => (by rw [h] at hr; cases hr), fun j hj => ?_⟩
    by_cases hji : j = i
    · subst hji; exact (sOp_iff hi).2 ⟨hy, H⟩
    · have := ready_mono hj hji
      obtain ⟨v, hv⟩ := may_some hC hy
      rw [(H v hv).1] at this
      cases this
  | succ fuel ih =>
    intro listed a hfree hr hy H
    refine ⟨fun h => (by rw [h] at hr; cases hr), fun j hj => ?_⟩
    by_cases hji : j = i
    · subst hji; exact (sOp_iff hi).2 ⟨hy, H⟩
    · have h1 := fun v hv => (H v hv).2 j (ready_mono hj hji)
      obtain ⟨hjun, oj, hoj, hall⟩ := mem_ready.1 hj
      have hnot : ∀ e ∈ oj.after, Region.binds md e = true → e.on ≠ i := fun e he hb heq => by
        have h1 := hall e he hb
        have h0 := (mem_ready.1 hr).1
        rw [heq] at h1
        rcases Nat.lt_or_ge i listed.size with h' | h'
        · simp [h'] at h0 h1; rw [h0] at h1; cases h1
        · simp [Array.getElem?_eq_none h'] at h1
      have h2 := sOp_swap hC hoj (hfree j oj hoj hji hjun hnot) (fun cs b => hsel i oi cs b hi) (fun cs b => hsel j oj cs b hoj) hy h1
      have hfree' : ∀ k ok, ops[k]? = some ok → k ≠ i → (listed.setIfInBounds j true).getD k true = false →
          (∀ e ∈ ok.after, Region.binds md e = true → e.on ≠ i) → oi.apart ops ok = true := fun k ok hk hki hun hno => by
        refine hfree k ok hk hki ?_ hno
        by_cases hjk : j = k
        · subst hjk; exact hjun
        · rw [getD_set_ne true hjk] at hun; exact hun
      refine sOp_mono (fun a' h3 => ih (listed.setIfInBounds j true) a' hfree' (ready_mono hr (Ne.symm hji)) h3.1 (fun v hv => ?_)) h2
      rw [Array.setIfInBounds_comm _ _ hji]
      exact h3.2 v hv

theorem sOp_of_wpSet {Q : Act → Prop} {o : Oper} {rest : List Oper} {k : Nat} {a : Act} (h0 : ops[k]? = some o) (h : wpSet P ops C T Q (o :: rest) a) : sOp P ops C T k (wpSet P ops C T Q rest) a := by
  unfold sOp; simp only [h0]; exact h

theorem wpAnyC_lex (hC : ∃ w, C w) {Q : Act → Prop} (hs : Region.noSelect ops = true) : ∀ (l : List Oper) (k : Nat) (listed : Array Bool) (a : Act), (∀ j, l[j]? = ops[k + j]?) →
    Region.lexFrom md ops l.length k listed = true → wpSet P ops C T Q l a → wpAnyC P md ops C T Q l.length listed a
  | [], _, _, _, _, hB, h => ⟨by simpa [Region.lexFrom] using hB, h⟩
  | o :: l, k, listed, a, hl, hB, h => by
    have h0 : ops[k]? = some o := by simpa using (hl 0).symm
    simp only [List.length_cons, Region.lexFrom, Bool.and_eq_true] at hB
    obtain ⟨⟨hr, hf⟩, hB'⟩ := hB
    have hst := (sOp_iff h0).1 (sOp_of_wpSet h0 h)
    exact wpAnyC_first hC h0 (Region.noSelect_spec hs) l.length listed a (Region.free_spec h0 hf) (by simpa using hr) hst.1
      fun v hv => wpAnyC_lex hC hs l (k + 1) _ _ (fun j => by have := hl (j + 1); simpa [Nat.add_assoc, Nat.add_comm 1 j] using this) hB' (hst.2 v hv)

/-- THE REGION, all of whose operations are so -/
theorem wp_region_set {id : Nat} {Q : Exit → Act → World → Prop} {a : Act} {w : World} {l : List Oper} (C : World → Prop) (T : FuncId → Array Value → Value → Prop) (hm : P.follows .mixedOrders = true) (hB : Region.lexB .any l.toArray = true) (hC : C { w with drawn := w.drawn + 1 })
    (h : wpSet P l.toArray C T (fun a' => ∀ w', C w' → Q .normal a' w') l a) : (Code.region id l.toArray true).wp P Q a w := by
  simp only [Region.lexB, Bool.and_eq_true] at hB
  refine wp_region_any hm (wpAny_of_set (T := T) (Q := fun a' => ∀ w', C w' → Q .normal a' w') (fun _ w' hw' h => h w' hw') _ _ _ _ hC ?_)
  have := wpAnyC_lex (C := C) (T := T) ⟨_, hC⟩ (md := .any) hB.1 l 0 (Array.replicate l.toArray.size false) a (by simp) (by simpa using hB.2) h
  simpa using this

/-! with a tail whose order is forced -/
def wpAnyM (P : Program) (md : Region.Mode) (ops : Array Oper) (C : World → Prop) (T : FuncId → Array Value → Value → Prop) (n : Nat) (L : Array Bool → Act → Prop) : Nat → Array Bool → Act → Prop
  | 0, listed, a => L listed a
  | f + 1, listed, a =>
    Region.ready md ops listed ≠ [] ∧ ∀ i ∈ Region.ready md ops listed, i < n ∧ sOp P ops C T i (wpAnyM P md ops C T n L f (listed.setIfInBounds i true)) a

theorem wpAny_of_headM {n g : Nat} {L : Array Bool → Act → Prop} {Q' : Exit → Act → World → Prop} (hL : ∀ listed a w, C w → L listed a → wpAny P md ops Q' g listed a w) :
    ∀ (f : Nat) (listed : Array Bool) (a : Act) (w : World), C w → wpAnyM P md ops C T n L f listed a → wpAny P md ops Q' (f + g) listed a w
  | 0, listed, a, w, hw, h => by rw [Nat.zero_add]; exact hL _ _ _ hw h
  | f + 1, listed, a, w, hw, h => by
    rw [show f + 1 + g = (f + g) + 1 by omega]
    exact ⟨fun h0 => absurd h0 h.1, fun i hi => wpOp_of_sOp hw (fun a' w' hw' h' => wpAny_of_headM hL f _ a' w' hw' h') (h.2 i hi).2⟩

theorem wpAnyM_first (hC : ∃ w, C w) {n i : Nat} {oi : Oper} {L : Array Bool → Act → Prop} (hi : ops[i]? = some oi) (hsel : ∀ (j : Nat) (o : Oper) cs b, ops[j]? = some o → o.op ≠ .select cs b)
    (hs : Region.sinkB md ops n = true) (hc : Region.chainB md ops n = true) (hn : n < ops.size) (hin : i < n)
    (hdone : ∀ listed a, L listed a → ∀ j ∈ Region.ready md ops listed, n ≤ j) :
    ∀ (f : Nat) (listed : Array Bool) (a : Act), HeadInv md ops n listed →
      (∀ j oj, ops[j]? = some oj → j ≠ i → listed.getD j true = false → (∀ e ∈ oj.after, Region.binds md e = true → e.on ≠ i) → oi.apart ops oj = true) →
      i ∈ Region.ready md ops listed → fine P ops C T oi a →
      (∀ v, may P ops C T oi a v → wpAnyM P md ops C T n L f (listed.setIfInBounds i true) (a.put oi.dst v)) → wpAnyM P md ops C T n L (f + 1) listed a := by
  intro f
  induction f with
  | zero =>
    intro listed a inv _ hr hy H
    have hun := (mem_ready.1 hr).1
    refine ⟨fun h => (by rw [h] at hr; cases hr), fun j hj => ?_⟩
    have hjn : j < n := by
      rcases Nat.lt_or_ge j n with h | h
      · exact h
      · exact absurd hj (tail_waits hs hc hn inv _ i rfl hin hun j h)
    refine ⟨hjn, ?_⟩
    by_cases hji : j = i
    · subst hji; exact (sOp_iff hi).2 ⟨hy, H⟩
    · obtain ⟨v, hv⟩ := may_some hC hy
      have := hdone _ _ (H v hv) j (ready_mono hj hji)
      omega
  | succ f ih =>
    intro listed a inv hfree hr hy H
    have hun := (mem_ready.1 hr).1
    refine ⟨fun h => (by rw [h] at hr; cases hr), fun j hj => ?_⟩
    have hjn : j < n := by
      rcases Nat.lt_or_ge j n with h | h
      · exact h
      · exact absurd hj (tail_waits hs hc hn inv _ i rfl hin hun j h)
    refine ⟨hjn, ?_⟩
    by_cases hji : j = i
    · subst hji; exact (sOp_iff hi).2 ⟨hy, H⟩
    · have h1 := fun v hv => ((H v hv).2 j (ready_mono hj hji)).2
      obtain ⟨hjun, oj, hoj, hall⟩ := mem_ready.1 hj
      have hnot : ∀ e ∈ oj.after, Region.binds md e = true → e.on ≠ i := fun e he hb heq => by
        have h1 := hall e he hb
        rw [heq, getD_both hun] at h1
        cases h1
      have h2 := sOp_swap hC hoj (hfree j oj hoj hji hjun hnot) (fun cs b => hsel i oi cs b hi) (fun cs b => hsel j oj cs b hoj) hy h1
      have hfree' : ∀ k ok, ops[k]? = some ok → k ≠ i → (listed.setIfInBounds j true).getD k true = false →
          (∀ e ∈ ok.after, Region.binds md e = true → e.on ≠ i) → oi.apart ops ok = true := fun k ok hk hki hun hno => by
        refine hfree k ok hk hki ?_ hno
        by_cases hjk : j = k
        · subst hjk; exact hjun
        · rw [getD_set_ne true hjk] at hun; exact hun
      refine sOp_mono (fun a' h3 => ih (listed.setIfInBounds j true) a' (inv.set hj hjn) hfree' (ready_mono hr (Ne.symm hji)) h3.1 (fun v hv => ?_)) h2
      rw [Array.setIfInBounds_comm _ _ hji]
      exact h3.2 v hv

theorem wpAnyM_lex (hC : ∃ w, C w) {n g : Nat} {Lq : Act → Prop} (hsel : Region.noSelect ops = true) (hs : Region.sinkB md ops n = true) (hc : Region.chainB md ops n = true) (hn : n < ops.size) :
    ∀ (l : List Oper) (k : Nat) (listed : Array Bool) (a : Act), (∀ j, j < l.length → l[j]? = ops[k + j]?) → k + l.length = n → HeadInv md ops n listed →
    Region.lexHead md ops g l.length k listed = true → wpSet P ops C T Lq l a →
    wpAnyM P md ops C T n (fun listed' a' => Region.seqB md ops g n listed' = true ∧ Lq a') l.length listed a
  | [], k, listed, a, _, hk, _, hB, h => by
    have : k = n := by simpa using hk
    subst this
    exact ⟨by simpa [Region.lexHead] using hB, h⟩
  | o :: l, k, listed, a, hl, hk, inv, hB, h => by
    have h0 : ops[k]? = some o := by simpa using (hl 0 (by simp)).symm
    simp only [List.length_cons, Region.lexHead, Bool.and_eq_true] at hB
    obtain ⟨⟨hr, hf⟩, hB'⟩ := hB
    have hkn : k < n := by simp only [List.length_cons] at hk; omega
    have hr' : k ∈ Region.ready md ops listed := by simpa using hr
    have hst := (sOp_iff h0).1 (sOp_of_wpSet h0 h)
    exact wpAnyM_first hC h0 (Region.noSelect_spec hsel) hs hc hn hkn (fun listed' a' hL => seqB_ready hL.1) l.length listed a inv (Region.free_spec h0 hf) hr' hst.1
      fun v hv => wpAnyM_lex hC hsel hs hc hn l (k + 1) _ _ (fun j hj => by have := hl (j + 1) (by simp; omega); simpa [Nat.add_assoc, Nat.add_comm 1 j] using this) (by simp only [List.length_cons] at hk; omega) (inv.set hr' hkn) hB' (hst.2 v hv)

theorem wp_region_set_tail {id : Nat} {Q : Exit → Act → World → Prop} {a : Act} {w : World} {l : List Oper} (n : Nat) (C : World → Prop) (T : FuncId → Array Value → Value → Prop) (hm : P.follows .mixedOrders = true) (hB : Region.lexTailB .any l.toArray n = true) (hC : C { w with drawn := w.drawn + 1 })
    (h : wpSet P l.toArray C T (fun a' => ∀ w', C w' → wpList P l.toArray Q (l.drop n) a' w') (l.take n) a) : (Code.region id l.toArray true).wp P Q a w := by
  simp only [Region.lexTailB, Bool.and_eq_true, decide_eq_true_eq] at hB
  obtain ⟨⟨⟨⟨hsel, hn⟩, hs⟩, hc⟩, hlex⟩ := hB
  have hn' : n < l.length := by simpa using hn
  have htl : (l.take n).length = n := by simp; omega
  have hdl : (l.drop n).length = l.toArray.size - n := by simp
  have inv0 : HeadInv .any l.toArray n (Array.replicate l.toArray.size false) :=
    ⟨by simp, fun j oj _ hl => (by rw [getD_replicate_false] at hl; cases hl), fun t _ ht => getD_in (by simpa using ht) (getD_replicate_false _ _)⟩
  have H := wpAnyM_lex (C := C) (T := T) ⟨_, hC⟩ (md := .any) (g := l.toArray.size - n) hsel hs hc hn (l.take n) 0 _ a (fun j hj => by
    have hj' : j < n := by rw [htl] at hj; exact hj
    simp [hj']) (by simpa using htl) inv0 (by rw [htl]; exact hlex) h
  refine wp_region_any hm ?_
  have := wpAny_of_headM (C := C) (T := T) (Q' := Q) (g := l.toArray.size - n) (fun listed a' w' hw' hL => by
    have := wpAny_of_seq (md := .any) (Q' := Q) (l.drop n) n listed a' w' (fun j => by simp [List.getElem?_drop]) (by rw [hdl]; exact hL.1) (hL.2 w' hw')
    rwa [hdl] at this) _ _ _ _ hC H
  rw [htl, show n + (l.toArray.size - n) = l.toArray.size by omega] at this
  exact this

/-! the steps of the lexical walk -/
theorem wpSet_nil {Q : Act → Prop} {a : Act} (h : Q a) : wpSet P ops C T Q [] a := h
theorem wpSet_step {Q : Act → Prop} {a : Act} {o : Oper} {rest : List Oper}
    (h : ∀ K : Act → Prop, (∀ a, wpSet P ops C T Q rest a → K a) → if Region.wanted o (yielded ops a.tmps) then both P C T o a K else K (a.put o.dst undef)) : wpSet P ops C T Q (o :: rest) a :=
  h _ (fun _ h => h)
/-- a known value, in every such world, the world as it was -/
theorem both_value {o : Oper} {a : Act} {K : Act → Prop} {v : Value} (h : ∀ w, C w → (execOp a.eval o).run P w = .ok (.value v) w) (hk : K (a.put o.dst v)) : both P C T o a K :=
  ⟨fun w hw => by rw [h w hw]; exact hw, fun u ⟨w, hw, hu⟩ => by rw [h w hw] at hu; cases hu; exact hk⟩
/-- some value of a set, the world of the class -/
theorem both_values {o : Oper} {a : Act} {K : Act → Prop} {S : Value → Prop} (h : ∀ w, C w → ∃ v w', (execOp a.eval o).run P w = .ok (.value v) w' ∧ S v ∧ C w') (hk : ∀ v, S v → K (a.put o.dst v)) : both P C T o a K :=
  ⟨fun w hw => by obtain ⟨v, w', h1, h2, h3⟩ := h w hw; rw [h1]; exact h3, fun u ⟨w, hw, hu⟩ => by obtain ⟨v, w', h1, h2, h3⟩ := h w hw; rw [h1] at hu; cases hu; exact hk _ h2⟩
/-- a call, by its contract -/
theorem both_call {o : Oper} {a : Act} {K : Act → Prop} {f : FuncId} {args : Array Value} (h : ∀ w, C w → (execOp a.eval o).run P w = .ok (.enter f args) w)
    (hc : ∀ w, C w → Calls P f args w (fun e w'' => ∃ u, e = .returned u ∧ T f args u ∧ C w'')) (hk : ∀ u, T f args u → K (a.put o.dst u)) : both P C T o a K :=
  ⟨fun w hw => by rw [h w hw]; exact hc w hw, fun u ⟨w, hw, hu⟩ => by rw [h w hw] at hu; exact hk u hu⟩
end
end Lk
