import Derived.StillTail
import Derived.Deep.Draws
import Derived.Below
import Derived.Test.YtdngkeefbpffcaaFlW
import Derived.Laws.Tables
set_option autoImplicit false
namespace Lk
open Go Go.RowKit
/-! A region whose order is open, whose operations may make memory: what each left in memory stays there to the region's end. T: what a callee may hand back, and the world in which it did. -/
abbrev Ext (w w' : World) : Prop := Below w.heap.size w w'
theorem Ext.refl (w : World) : Ext w w := Below.refl _ _
theorem Ext.trans {a b c : World} (h : Ext a b) (k : Ext b c) : Ext a c := Below.trans h (Below.mono k h.size)
def Up (F : World → Prop) : Prop := ∀ x y, F x → Ext x y → F y
def And1 (F : World → Prop) (w : World) : World → Prop := fun x => F x ∧ Ext w x
theorem Up.and {F : World → Prop} (h : Up F) (w : World) : Up (And1 F w) := fun x y ⟨a, b⟩ e => ⟨h x y a e, b.trans e⟩

section
variable {P : Program} {ops : Array Oper} {md : Region.Mode} {W : World} {T : FuncId → Array Value → Value → World → Prop}

def safeG (P : Program) (W : World) (T : FuncId → Array Value → Value → World → Prop) (o : Oper) (a : Act) : Prop := ∀ w, Ext W w → match (execOp a.eval o).run P w with
  | .ok (.value _) w' => Ext w w'
  | .ok .skip w' => Ext w w'
  | .ok (.enter f args) w' => w' = w ∧ Calls P f args w (fun e w'' => ∃ u, e = .returned u ∧ T f args u w'' ∧ Ext w w'')
  | _ => False
def possG (P : Program) (W : World) (T : FuncId → Array Value → Value → World → Prop) (o : Oper) (a : Act) (u : Value) (x : World) : Prop := ∃ w, Ext W w ∧ match (execOp a.eval o).run P w with
  | .ok (.value v) w' => u = v ∧ x = w'
  | .ok .skip w' => u = undef ∧ x = w'
  | .ok (.enter f args) _ => T f args u x ∧ Ext w x
  | _ => False
abbrev Kont := Act → (World → Prop) → Prop
def Anti (K : Kont) : Prop := ∀ a (F F' : World → Prop), (∀ x, F' x → F x) → K a F → K a F'

def bothG (P : Program) (W : World) (T : FuncId → Array Value → Value → World → Prop) (o : Oper) (a : Act) (F : World → Prop) (K : Kont) : Prop :=
  safeG P W T o a ∧ ∀ u x, possG P W T o a u x → K (a.put o.dst u) (And1 F x)

def wpG (P : Program) (ops : Array Oper) (W : World) (T : FuncId → Array Value → Value → World → Prop) (Q : Kont) : List Oper → Kont
  | [], a, F => Q a F
  | o :: rest, a, F => if Region.wanted o (yielded ops a.tmps) then bothG P W T o a F (wpG P ops W T Q rest) else wpG P ops W T Q rest (a.put o.dst undef) F

def gOp (P : Program) (ops : Array Oper) (W : World) (T : FuncId → Array Value → Value → World → Prop) (i : Nat) (K : Kont) (a : Act) (F : World → Prop) : Prop :=
  match ops[i]? with
  | none => K a F
  | some o => if Region.wanted o (yielded ops a.tmps) then bothG P W T o a F K else K (a.put o.dst undef) F

def mayG (P : Program) (ops : Array Oper) (W : World) (T : FuncId → Array Value → Value → World → Prop) (o : Oper) (a : Act) (u : Value) (x : World) : Prop :=
  (Region.wanted o (yielded ops a.tmps) = true ∧ possG P W T o a u x) ∨ (Region.wanted o (yielded ops a.tmps) = false ∧ u = undef ∧ x = W)
def fineG (P : Program) (ops : Array Oper) (W : World) (T : FuncId → Array Value → Value → World → Prop) (o : Oper) (a : Act) : Prop :=
  Region.wanted o (yielded ops a.tmps) = true → safeG P W T o a

/-- F tells at least that the region's first world has been -/
def Based (W : World) (F : World → Prop) : Prop := ∀ x, F x → Ext W x
theorem Based.and {F : World → Prop} (h : Based W F) (w : World) : Based W (And1 F w) := fun x hx => h x hx.1

theorem gOp_iff {i : Nat} {o : Oper} {a : Act} {F : World → Prop} {K : Kont} (hK : Anti K) (hF : Based W F) (hi : ops[i]? = some o) :
    gOp P ops W T i K a F ↔ fineG P ops W T o a ∧ ∀ u x, mayG P ops W T o a u x → K (a.put o.dst u) (And1 F x) := by
  unfold gOp fineG mayG bothG
  simp only [hi]
  by_cases hw : Region.wanted o (yielded ops a.tmps) = true
  · simp [hw]
  · simp only [hw]
    constructor
    · intro h
      refine ⟨fun h' => absurd h' (by simp), ?_⟩
      rintro u x (⟨h', _⟩ | ⟨_, rfl, rfl⟩)
      · exact absurd h' (by simp)
      · exact hK _ _ _ (fun x hx => hx.1) h
    · rintro ⟨_, h⟩
      exact hK _ _ _ (fun x hx => ⟨hx, hF x hx⟩) (h undef W (.inr ⟨trivial, rfl, rfl⟩))

theorem possG_some {o : Oper} {a : Act} (h : safeG P W T o a) : ∃ u x, possG P W T o a u x := by
  have hs := h W (Ext.refl W)
  cases hr : (execOp a.eval o).run P W with
  | ok n w' =>
    rw [hr] at hs
    cases n <;> simp only at hs
    case value v => exact ⟨v, w', W, Ext.refl W, by rw [hr]; exact ⟨rfl, rfl⟩⟩
    case skip => exact ⟨undef, w', W, Ext.refl W, by rw [hr]; exact ⟨rfl, rfl⟩⟩
    case enter f args =>
      obtain ⟨e, w'', fr, ⟨u, _, ht, hx⟩, _⟩ := hs.2 []
      exact ⟨u, w'', W, Ext.refl W, by rw [hr]; exact ⟨ht, hx⟩⟩
  | halt x w' => rw [hr] at hs; exact hs.elim
theorem mayG_some {o : Oper} {a : Act} (h : fineG P ops W T o a) : ∃ u x, mayG P ops W T o a u x := by
  by_cases hw : Region.wanted o (yielded ops a.tmps) = true
  · obtain ⟨u, x, hu⟩ := possG_some (h hw); exact ⟨u, x, .inl ⟨hw, hu⟩⟩
  · exact ⟨undef, W, .inr ⟨by simpa using hw, rfl, rfl⟩⟩
theorem fineG_same {o : Oper} {a a' : Act} (he : execOp a'.eval o = execOp a.eval o) (hw : Region.wanted o (yielded ops a'.tmps) = Region.wanted o (yielded ops a.tmps)) :
    (fineG P ops W T o a' ↔ fineG P ops W T o a) ∧ ∀ u x, mayG P ops W T o a' u x ↔ mayG P ops W T o a u x := by
  unfold fineG mayG safeG possG
  rw [he, hw]
  exact ⟨Iff.rfl, fun _ _ => Iff.rfl⟩

theorem gOp_mono {i : Nat} {a : Act} {F : World → Prop} {K K' : Kont} (h : ∀ a F', (∀ x, F' x → F x) → K a F' → K' a F') (hh : gOp P ops W T i K a F) : gOp P ops W T i K' a F := by
  unfold gOp bothG at *
  split
  · exact h _ _ (fun _ hx => hx) (by simpa [*] using hh)
  · rename_i o ho
    simp only [ho] at hh
    split
    · rename_i hw; simp only [hw, if_true] at hh; exact ⟨hh.1, fun u x hu => h _ _ (fun _ hx => hx.1) (hh.2 u x hu)⟩
    · rename_i hw; simp only [hw] at hh; exact h _ _ (fun _ hx => hx) hh

theorem wpOp_of_gOp {i : Nat} {a : Act} {F : World → Prop} {K : Kont} {K' : Act → World → Prop} {Q' : Exit → Act → World → Prop} {w : World} (hF : Based W F) (hU : Up F) (hw : F w)
    (h : ∀ a F' w', Based W F' → Up F' → F' w' → K a F' → K' a w') (hh : gOp P ops W T i K a F) : wpOp P ops Q' i K' a w := by
  unfold gOp bothG at hh
  unfold wpOp
  split
  · rename_i ho; simp only [ho] at hh; exact h _ _ _ hF hU hw hh
  · rename_i o ho
    simp only [ho] at hh
    split
    · rename_i hwd; simp only [hwd, if_true] at hh
      left
      obtain ⟨h1, h2⟩ := hh
      have hs := h1 w (hF w hw)
      have hp : ∀ u x, (match (execOp a.eval o).run P w with
        | .ok (.value v) w' => u = v ∧ x = w'
        | .ok .skip w' => u = undef ∧ x = w'
        | .ok (.enter f args) _ => T f args u x ∧ Ext w x
        | _ => False) → K (a.put o.dst u) (And1 F x) := fun u x hu => h2 u x ⟨w, hF w hw, hu⟩
      unfold Oper.wp
      generalize (execOp a.eval o).run P w = r at *
      cases r with
      | ok n w' =>
        cases n <;> simp only at hs <;> simp only [Oper.upon]
        case value v => exact h _ _ _ (hF.and _) (hU.and _) ⟨hU _ _ hw hs, Ext.refl _⟩ (hp v w' ⟨rfl, rfl⟩)
        case skip => exact h _ _ _ (hF.and _) (hU.and _) ⟨hU _ _ hw hs, Ext.refl _⟩ (hp undef w' ⟨rfl, rfl⟩)
        case enter f args =>
          obtain ⟨e1, hc⟩ := hs
          rw [e1]
          refine hc.mono fun e w'' ⟨u, he, ht, hx⟩ => ?_
          subst he
          exact h _ _ _ (hF.and _) (hU.and _) ⟨hU _ _ hw hx, Ext.refl _⟩ (hp u w'' ⟨ht, hx⟩)
      | halt x w' => exact hs.elim
    · rename_i hwd; simp only [hwd] at hh; exact h _ _ _ hF hU hw hh

theorem gOp_swap {j : Nat} {oi oj : Oper} (hj : ops[j]? = some oj) (hap : oi.apart ops oj = true)
    (hsi : ∀ cs b, oi.op ≠ .select cs b) (hsj : ∀ cs b, oj.op ≠ .select cs b) {K : Kont} (hK : Anti K) {a : Act} {F : World → Prop} (hF : Based W F)
    (hf : fineG P ops W T oi a) (h : ∀ v x, mayG P ops W T oi a v x → gOp P ops W T j K (a.put oi.dst v) (And1 F x)) :
    gOp P ops W T j (fun a' F' => fineG P ops W T oi a' ∧ ∀ v x, mayG P ops W T oi a' v x → K (a'.put oi.dst v) (And1 F' x)) a F := by
  obtain ⟨h1, h2, h3⟩ := Oper.apart_spec hap
  have ej : ∀ v, (fineG P ops W T oj (a.put oi.dst v) ↔ fineG P ops W T oj a) ∧ ∀ u x, mayG P ops W T oj (a.put oi.dst v) u x ↔ mayG P ops W T oj a u x :=
    fun v => fineG_same (execOp_put oj hsj a oi.dst v h1) (wanted_put oj a oi.dst v h1)
  have ei : ∀ u, (fineG P ops W T oi (a.put oj.dst u) ↔ fineG P ops W T oi a) ∧ ∀ v x, mayG P ops W T oi (a.put oj.dst u) v x ↔ mayG P ops W T oi a v x :=
    fun u => fineG_same (execOp_put oi hsi a oj.dst u h3) (wanted_put oi a oj.dst u h3)
  have hK' : Anti (fun a' F' => fineG P ops W T oi a' ∧ ∀ v x, mayG P ops W T oi a' v x → K (a'.put oi.dst v) (And1 F' x)) :=
    fun a F F' hFF ⟨p, q⟩ => ⟨p, fun v x hv => hK _ _ _ (fun y hy => ⟨hFF y hy.1, hy.2⟩) (q v x hv)⟩
  rw [gOp_iff hK' hF hj]
  obtain ⟨v0, x0, hv0⟩ := mayG_some hf
  refine ⟨(ej v0).1.1 ((gOp_iff hK (hF.and _) hj).1 (h v0 x0 hv0)).1, fun u y hu => ⟨(ei u).1.2 hf, fun v x hv => ?_⟩⟩
  have hv' := ((ei u).2 v x).1 hv
  have := ((gOp_iff hK (hF.and _) hj).1 (h v x hv')).2 u y (((ej v).2 u y).2 hu)
  rw [← Act.put_comm a v u h2]
  exact hK _ _ _ (fun z hz => ⟨⟨hz.1.1, hz.2⟩, hz.1.2⟩) this

def wpAnyG (P : Program) (md : Region.Mode) (ops : Array Oper) (W : World) (T : FuncId → Array Value → Value → World → Prop) (Q : Kont) : Nat → Array Bool → Kont
  | 0, listed, a, F => Region.ready md ops listed = [] ∧ Q a F
  | fuel + 1, listed, a, F =>
    (Region.ready md ops listed = [] → Q a F) ∧
    ∀ i ∈ Region.ready md ops listed, gOp P ops W T i (wpAnyG P md ops W T Q fuel (listed.setIfInBounds i true)) a F

theorem gOp_anti {i : Nat} {K : Kont} (hK : Anti K) : Anti (gOp P ops W T i K) := by
  intro a F F' hFF h
  unfold gOp bothG at *
  split
  · exact hK _ _ _ hFF (by simpa [*] using h)
  · rename_i o ho
    simp only [ho] at h
    split
    · rename_i hw; simp only [hw, if_true] at h; exact ⟨h.1, fun u x hu => hK _ _ _ (fun y hy => ⟨hFF y hy.1, hy.2⟩) (h.2 u x hu)⟩
    · rename_i hw; simp only [hw] at h; exact hK _ _ _ hFF h
theorem wpAnyG_anti {Q : Kont} (hQ : Anti Q) : ∀ (fuel : Nat) (listed : Array Bool), Anti (wpAnyG P md ops W T Q fuel listed)
  | 0, _ => fun _ _ _ hFF h => ⟨h.1, hQ _ _ _ hFF h.2⟩
  | fuel + 1, _ => fun _ _ _ hFF h => ⟨fun h0 => hQ _ _ _ hFF (h.1 h0), fun i hi => gOp_anti (wpAnyG_anti hQ fuel _) _ _ _ hFF (h.2 i hi)⟩

theorem wpAny_of_G {Q : Kont} {Q' : Exit → Act → World → Prop} (hQ : ∀ a F w, Based W F → Up F → F w → Q a F → Q' .normal a w) : ∀ (fuel : Nat) (listed : Array Bool) (a : Act) (F : World → Prop) (w : World), Based W F → Up F → F w →
    wpAnyG P md ops W T Q fuel listed a F → wpAny P md ops Q' fuel listed a w
  | 0, _, _, _, _, hB, hU, hw, h => ⟨h.1, hQ _ _ _ hB hU hw h.2⟩
  | fuel + 1, _, _, _, _, hB, hU, hw, h => ⟨fun h0 => hQ _ _ _ hB hU hw (h.1 h0), fun i hi => wpOp_of_gOp hB hU hw (fun a' F' w' b u f k => wpAny_of_G hQ fuel _ a' F' w' b u f k) (h.2 i hi)⟩

theorem wpAnyG_first {Q : Kont} (hQ : Anti Q) {i : Nat} {oi : Oper} (hi : ops[i]? = some oi) (hsel : ∀ (j : Nat) (o : Oper) cs b, ops[j]? = some o → o.op ≠ .select cs b) :
    ∀ (fuel : Nat) (listed : Array Bool) (a : Act) (F : World → Prop), Based W F →
      (∀ j oj, ops[j]? = some oj → j ≠ i → listed.getD j true = false → (∀ e ∈ oj.after, Region.binds md e = true → e.on ≠ i) → oi.apart ops oj = true) →
      i ∈ Region.ready md ops listed → fineG P ops W T oi a →
      (∀ v x, mayG P ops W T oi a v x → wpAnyG P md ops W T Q fuel (listed.setIfInBounds i true) (a.put oi.dst v) (And1 F x)) → wpAnyG P md ops W T Q (fuel + 1) listed a F := by
  intro fuel
  induction fuel with
  | zero =>
    intro listed a F hB _ hr hy H
    refine ⟨fun h => (by rw [h] at hr; cases hr), fun j hj => ?_⟩
    by_cases hji : j = i
    · subst hji; exact (gOp_iff (wpAnyG_anti hQ _ _) hB hi).2 ⟨hy, H⟩
    · have := ready_mono hj hji
      obtain ⟨v, x, hv⟩ := mayG_some hy
      rw [(H v x hv).1] at this
      cases this
  | succ fuel ih =>
    intro listed a F hB hfree hr hy H
    refine ⟨fun h => (by rw [h] at hr; cases hr), fun j hj => ?_⟩
    by_cases hji : j = i
    · subst hji; exact (gOp_iff (wpAnyG_anti hQ _ _) hB hi).2 ⟨hy, H⟩
    · have h1 := fun v x hv => (H v x hv).2 j (ready_mono hj hji)
      obtain ⟨hjun, oj, hoj, hall⟩ := mem_ready.1 hj
      have hnot : ∀ e ∈ oj.after, Region.binds md e = true → e.on ≠ i := fun e he hb heq => by
        have h1 := hall e he hb
        rw [heq, getD_both (mem_ready.1 hr).1] at h1
        cases h1
      have h2 := gOp_swap hoj (hfree j oj hoj hji hjun hnot) (fun cs b => hsel i oi cs b hi) (fun cs b => hsel j oj cs b hoj) (wpAnyG_anti hQ _ _) hB hy h1
      have hfree' : ∀ k ok, ops[k]? = some ok → k ≠ i → (listed.setIfInBounds j true).getD k true = false →
          (∀ e ∈ ok.after, Region.binds md e = true → e.on ≠ i) → oi.apart ops ok = true := fun k ok hk hki hun hno => by
        refine hfree k ok hk hki ?_ hno
        by_cases hjk : j = k
        · subst hjk; exact hjun
        · rw [getD_set_ne true hjk] at hun; exact hun
      refine gOp_mono (fun a' F' hF' h3 => ih (listed.setIfInBounds j true) a' F' (fun x hx => hB x (hF' x hx)) hfree' (ready_mono hr (Ne.symm hji)) h3.1 (fun v x hv => ?_)) h2
      rw [Array.setIfInBounds_comm _ _ hji]
      exact h3.2 v x hv

theorem wpG_anti {Q : Kont} (hQ : Anti Q) : ∀ l, Anti (wpG P ops W T Q l)
  | [] => hQ
  | o :: l => fun a F F' hFF h => by
    unfold wpG bothG at *
    split
    · rename_i hw; rw [if_pos hw] at h; exact ⟨h.1, fun u x hu => wpG_anti hQ l _ _ _ (fun y hy => ⟨hFF y hy.1, hy.2⟩) (h.2 u x hu)⟩
    · rename_i hw; rw [if_neg hw] at h; exact wpG_anti hQ l _ _ _ hFF h
theorem gOp_of_wpG {Q : Kont} {o : Oper} {rest : List Oper} {k : Nat} {a : Act} {F : World → Prop} (h0 : ops[k]? = some o) (h : wpG P ops W T Q (o :: rest) a F) : gOp P ops W T k (wpG P ops W T Q rest) a F := by
  unfold gOp; simp only [h0]; exact h

theorem wpAnyG_lex {Q : Kont} (hQ : Anti Q) (hs : Region.noSelect ops = true) : ∀ (l : List Oper) (k : Nat) (listed : Array Bool) (a : Act) (F : World → Prop), Based W F → (∀ j, l[j]? = ops[k + j]?) →
    Region.lexFrom md ops l.length k listed = true → wpG P ops W T Q l a F → wpAnyG P md ops W T Q l.length listed a F
  | [], _, _, _, _, _, _, hB, h => ⟨by simpa [Region.lexFrom] using hB, h⟩
  | o :: l, k, listed, a, F, hBF, hl, hB, h => by
    have h0 : ops[k]? = some o := by simpa using (hl 0).symm
    simp only [List.length_cons, Region.lexFrom, Bool.and_eq_true] at hB
    obtain ⟨⟨hr, hf⟩, hB'⟩ := hB
    have hst := (gOp_iff (wpG_anti hQ l) hBF h0).1 (gOp_of_wpG h0 h)
    exact wpAnyG_first hQ h0 (Region.noSelect_spec hs) l.length listed a F hBF (Region.free_spec h0 hf) (by simpa using hr) hst.1
      fun v x hv => wpAnyG_lex hQ hs l (k + 1) _ _ _ (hBF.and _) (fun j => by have := hl (j + 1); simpa [Nat.add_assoc, Nat.add_comm 1 j] using this) hB' (hst.2 v x hv)

def endG (W : World) (R : Act → World → Prop) : Kont := fun a F => ∀ w, Ext W w → F w → R a w
theorem endG_anti {R : Act → World → Prop} : Anti (endG W R) := fun _ _ _ hFF h w hw hf => h w hw (hFF w hf)

theorem wp_region_G {id : Nat} {Q : Exit → Act → World → Prop} {a : Act} {w : World} {l : List Oper} (T : FuncId → Array Value → Value → World → Prop) (hm : P.follows .mixedOrders = true) (hB : Region.lexB .any l.toArray = true)
    (h : wpG P l.toArray w T (endG w (fun a' w' => Q .normal a' w')) l a (Ext w)) : (Code.region id l.toArray true).wp P Q a w := by
  simp only [Region.lexB, Bool.and_eq_true] at hB
  have e : Ext w { w with drawn := w.drawn + 1 } := (Below.refl _ w).drew
  refine wp_region_any hm (wpAny_of_G (T := T) (W := w) (Q := endG w (fun a' w' => Q .normal a' w')) (fun _ F w' b _ f h => h w' (b w' f) f) _ _ _ (Ext w) _ (fun _ hx => hx) (fun _ _ h k => h.trans k) e ?_)
  have := wpAnyG_lex (T := T) (W := w) (md := .any) (Q := endG w (fun a' w' => Q .normal a' w')) endG_anti hB.1 l 0 (Array.replicate l.toArray.size false) a (Ext w) (fun _ hx => hx) (by simp) (by simpa using hB.2) h
  simpa using this


/-! with a tail whose order is forced -/
def wpAnyGM (P : Program) (md : Region.Mode) (ops : Array Oper) (W : World) (T : FuncId → Array Value → Value → World → Prop) (n : Nat) (L : Array Bool → Kont) : Nat → Array Bool → Kont
  | 0, listed, a, F => L listed a F
  | f + 1, listed, a, F =>
    Region.ready md ops listed ≠ [] ∧ ∀ i ∈ Region.ready md ops listed, i < n ∧ gOp P ops W T i (wpAnyGM P md ops W T n L f (listed.setIfInBounds i true)) a F
theorem wpAnyGM_anti {n : Nat} {L : Array Bool → Kont} (hL : ∀ l, Anti (L l)) : ∀ (fuel : Nat) (listed : Array Bool), Anti (wpAnyGM P md ops W T n L fuel listed)
  | 0, l => hL l
  | fuel + 1, _ => fun _ _ _ hFF h => ⟨h.1, fun i hi => ⟨(h.2 i hi).1, gOp_anti (wpAnyGM_anti hL fuel _) _ _ _ hFF (h.2 i hi).2⟩⟩
theorem wpAny_of_headG {n g : Nat} {L : Array Bool → Kont} {Q' : Exit → Act → World → Prop} (hL : ∀ listed a F w, Based W F → Up F → F w → L listed a F → wpAny P md ops Q' g listed a w) :
    ∀ (f : Nat) (listed : Array Bool) (a : Act) (F : World → Prop) (w : World), Based W F → Up F → F w → wpAnyGM P md ops W T n L f listed a F → wpAny P md ops Q' (f + g) listed a w
  | 0, listed, a, F, w, hB, hU, hw, h => by rw [Nat.zero_add]; exact hL _ _ _ _ hB hU hw h
  | f + 1, listed, a, F, w, hB, hU, hw, h => by
    rw [show f + 1 + g = (f + g) + 1 by omega]
    exact ⟨fun h0 => absurd h0 h.1, fun i hi => wpOp_of_gOp hB hU hw (fun a' F' w' b u k h' => wpAny_of_headG hL f _ a' F' w' b u k h') (h.2 i hi).2⟩

theorem wpAnyGM_first {n i : Nat} {oi : Oper} {L : Array Bool → Kont} (hLa : ∀ l, Anti (L l)) (hi : ops[i]? = some oi) (hsel : ∀ (j : Nat) (o : Oper) cs b, ops[j]? = some o → o.op ≠ .select cs b)
    (hs : Region.sinkB md ops n = true) (hc : Region.chainB md ops n = true) (hn : n < ops.size) (hin : i < n)
    (hdone : ∀ listed a F, L listed a F → ∀ j ∈ Region.ready md ops listed, n ≤ j) :
    ∀ (f : Nat) (listed : Array Bool) (a : Act) (F : World → Prop), Based W F → HeadInv md ops n listed →
      (∀ j oj, ops[j]? = some oj → j ≠ i → listed.getD j true = false → (∀ e ∈ oj.after, Region.binds md e = true → e.on ≠ i) → oi.apart ops oj = true) →
      i ∈ Region.ready md ops listed → fineG P ops W T oi a →
      (∀ v x, mayG P ops W T oi a v x → wpAnyGM P md ops W T n L f (listed.setIfInBounds i true) (a.put oi.dst v) (And1 F x)) → wpAnyGM P md ops W T n L (f + 1) listed a F := by
  intro f
  induction f with
  | zero =>
    intro listed a F hB inv _ hr hy H
    have hun := (mem_ready.1 hr).1
    refine ⟨fun h => (by rw [h] at hr; cases hr), fun j hj => ?_⟩
    have hjn : j < n := by
      rcases Nat.lt_or_ge j n with h | h
      · exact h
      · exact absurd hj (tail_waits hs hc hn inv _ i rfl hin hun j h)
    refine ⟨hjn, ?_⟩
    by_cases hji : j = i
    · subst hji; exact (gOp_iff (hLa _) hB hi).2 ⟨hy, H⟩
    · obtain ⟨v, x, hv⟩ := mayG_some hy
      have := hdone _ _ _ (H v x hv) j (ready_mono hj hji)
      omega
  | succ f ih =>
    intro listed a F hB inv hfree hr hy H
    have hun := (mem_ready.1 hr).1
    refine ⟨fun h => (by rw [h] at hr; cases hr), fun j hj => ?_⟩
    have hjn : j < n := by
      rcases Nat.lt_or_ge j n with h | h
      · exact h
      · exact absurd hj (tail_waits hs hc hn inv _ i rfl hin hun j h)
    refine ⟨hjn, ?_⟩
    by_cases hji : j = i
    · subst hji; exact (gOp_iff (wpAnyGM_anti hLa _ _) hB hi).2 ⟨hy, H⟩
    · have h1 := fun v x hv => ((H v x hv).2 j (ready_mono hj hji)).2
      obtain ⟨hjun, oj, hoj, hall⟩ := mem_ready.1 hj
      have hnot : ∀ e ∈ oj.after, Region.binds md e = true → e.on ≠ i := fun e he hb heq => by
        have h1 := hall e he hb
        rw [heq, getD_both hun] at h1
        cases h1
      have h2 := gOp_swap hoj (hfree j oj hoj hji hjun hnot) (fun cs b => hsel i oi cs b hi) (fun cs b => hsel j oj cs b hoj) (wpAnyGM_anti hLa _ _) hB hy h1
      have hfree' : ∀ k ok, ops[k]? = some ok → k ≠ i → (listed.setIfInBounds j true).getD k true = false →
          (∀ e ∈ ok.after, Region.binds md e = true → e.on ≠ i) → oi.apart ops ok = true := fun k ok hk hki hun hno => by
        refine hfree k ok hk hki ?_ hno
        by_cases hjk : j = k
        · subst hjk; exact hjun
        · rw [getD_set_ne true hjk] at hun; exact hun
      refine gOp_mono (fun a' F' hF' h3 => ih (listed.setIfInBounds j true) a' F' (fun x hx => hB x (hF' x hx)) (inv.set hj hjn) hfree' (ready_mono hr (Ne.symm hji)) h3.1 (fun v x hv => ?_)) h2
      rw [Array.setIfInBounds_comm _ _ hji]
      exact h3.2 v x hv

theorem wpAnyGM_lex {n g : Nat} {Lq : Kont} (hLq : Anti Lq) (hsel : Region.noSelect ops = true) (hs : Region.sinkB md ops n = true) (hc : Region.chainB md ops n = true) (hn : n < ops.size) :
    ∀ (l : List Oper) (k : Nat) (listed : Array Bool) (a : Act) (F : World → Prop), Based W F → (∀ j, j < l.length → l[j]? = ops[k + j]?) → k + l.length = n → HeadInv md ops n listed →
    Region.lexHead md ops g l.length k listed = true → wpG P ops W T Lq l a F →
    wpAnyGM P md ops W T n (fun listed' a' F' => Region.seqB md ops g n listed' = true ∧ Lq a' F') l.length listed a F
  | [], k, listed, a, F, _, _, hk, _, hB, h => by
    have : k = n := by simpa using hk
    subst this
    exact ⟨by simpa [Region.lexHead] using hB, h⟩
  | o :: l, k, listed, a, F, hBF, hl, hk, inv, hB, h => by
    have h0 : ops[k]? = some o := by simpa using (hl 0 (by simp)).symm
    simp only [List.length_cons, Region.lexHead, Bool.and_eq_true] at hB
    obtain ⟨⟨hr, hf⟩, hB'⟩ := hB
    have hkn : k < n := by simp only [List.length_cons] at hk; omega
    have hr' : k ∈ Region.ready md ops listed := by simpa using hr
    have hst := (gOp_iff (wpG_anti hLq l) hBF h0).1 (gOp_of_wpG h0 h)
    exact wpAnyGM_first (fun _ _ _ _ hFF h => ⟨h.1, hLq _ _ _ hFF h.2⟩) h0 (Region.noSelect_spec hsel) hs hc hn hkn (fun listed' a' F' hL => seqB_ready hL.1) l.length listed a F hBF inv (Region.free_spec h0 hf) hr' hst.1
      fun v x hv => wpAnyGM_lex hLq hsel hs hc hn l (k + 1) _ _ _ (hBF.and _) (fun j hj => by have := hl (j + 1) (by simp; omega); simpa [Nat.add_assoc, Nat.add_comm 1 j] using this) (by simp only [List.length_cons] at hk; omega) (inv.set hr' hkn) hB' (hst.2 v x hv)

theorem wp_region_G_tail {id : Nat} {Q : Exit → Act → World → Prop} {a : Act} {w : World} {l : List Oper} (n : Nat) (T : FuncId → Array Value → Value → World → Prop) (hm : P.follows .mixedOrders = true) (hB : Region.lexTailB .any l.toArray n = true)
    (h : wpG P l.toArray w T (endG w (fun a' w' => wpList P l.toArray Q (l.drop n) a' w')) (l.take n) a (Ext w)) : (Code.region id l.toArray true).wp P Q a w := by
  simp only [Region.lexTailB, Bool.and_eq_true, decide_eq_true_eq] at hB
  obtain ⟨⟨⟨⟨hsel, hn⟩, hs⟩, hc⟩, hlex⟩ := hB
  have hn' : n < l.length := by simpa using hn
  have htl : (l.take n).length = n := by simp; omega
  have hdl : (l.drop n).length = l.toArray.size - n := by simp
  have inv0 : HeadInv .any l.toArray n (Array.replicate l.toArray.size false) :=
    ⟨by simp, fun j oj _ hl => (by rw [getD_replicate_false] at hl; cases hl), fun t _ ht => getD_in (by simpa using ht) (getD_replicate_false _ _)⟩
  have H := wpAnyGM_lex (T := T) (W := w) (md := .any) (g := l.toArray.size - n) endG_anti hsel hs hc hn (l.take n) 0 _ a (Ext w) (fun _ hx => hx) (fun j hj => by
    have hj' : j < n := by rw [htl] at hj; exact hj
    simp [hj']) (by simpa using htl) inv0 (by rw [htl]; exact hlex) h
  have e : Ext w { w with drawn := w.drawn + 1 } := (Below.refl _ w).drew
  refine wp_region_any hm ?_
  have := wpAny_of_headG (T := T) (W := w) (Q' := Q) (g := l.toArray.size - n) (fun listed a' F' w' b _ f hL => by
    have := wpAny_of_seq (md := .any) (Q' := Q) (l.drop n) n listed a' w' (fun j => by simp [List.getElem?_drop]) (by rw [hdl]; exact hL.1) (hL.2 w' (b w' f) f)
    rwa [hdl] at this) _ _ _ (Ext w) _ (fun _ hx => hx) (fun _ _ h k => h.trans k) e H
  rw [htl, show n + (l.toArray.size - n) = l.toArray.size by omega] at this
  exact this

/-! the steps -/
theorem wpG_nil {R : Act → World → Prop} {a : Act} {F : World → Prop} (h : ∀ w, Ext W w → F w → R a w) : wpG P ops W T (endG W R) [] a F := h
theorem wpG_step' {R : Act → World → Prop} {a : Act} {F : World → Prop} {o : Oper} {rest : List Oper}
    (h : ∀ K : Kont, Anti K → (∀ a F, wpG P ops W T (endG W R) rest a F → K a F) → if Region.wanted o (yielded ops a.tmps) then bothG P W T o a F K else K (a.put o.dst undef) F) : wpG P ops W T (endG W R) (o :: rest) a F :=
  h _ (wpG_anti endG_anti rest) (fun _ _ h => h)
theorem wpG_step {Q : Kont} {a : Act} {F : World → Prop} {o : Oper} {rest : List Oper}
    (h : ∀ K : Kont, (∀ a F, wpG P ops W T Q rest a F → K a F) → if Region.wanted o (yielded ops a.tmps) then bothG P W T o a F K else K (a.put o.dst undef) F) : wpG P ops W T Q (o :: rest) a F :=
  h _ (fun _ _ h => h)
/-- a known value, in every such world, the world as it was: nothing more is to be said of memory -/
theorem wpG_value {Q : Kont} (hQ : Anti Q) {a : Act} {F : World → Prop} {o : Oper} {rest : List Oper} {v : Value} (hg : o.guard = none)
    (h : ∀ w', Ext W w' → (execOp a.eval o).run P w' = .ok (.value v) w') (hk : wpG P ops W T Q rest (a.put o.dst v) F) : wpG P ops W T Q (o :: rest) a F := by
  unfold wpG
  rw [if_pos (by simp [Region.wanted, hg])]
  refine ⟨fun w hw => by rw [h w hw]; exact Ext.refl _, fun u x ⟨w, hw, hu⟩ => ?_⟩
  rw [h w hw] at hu
  obtain ⟨rfl, rfl⟩ := hu
  exact wpG_anti hQ rest _ _ _ (fun y hy => hy.1) hk
theorem bothG_value {K : Kont} (hK : Anti K) {a : Act} {F : World → Prop} {o : Oper} {v : Value}
    (h : ∀ w', (∀ b i, b < W.heap.size → w'.cell? ⟨b, i, none⟩ = W.cell? ⟨b, i, none⟩) → (execOp a.eval o).run P w' = .ok (.value v) w') (hk : K (a.put o.dst v) F) : bothG P W T o a F K :=
  ⟨fun w hw => by rw [h w (fun b i hb => hw.cell (p := ⟨b, i, none⟩) hb)]; exact Ext.refl _, fun u x ⟨w, hw, hu⟩ => by
    rw [h w (fun b i hb => hw.cell (p := ⟨b, i, none⟩) hb)] at hu
    obtain ⟨rfl, rfl⟩ := hu
    exact hK _ _ _ (fun y hy => hy.1) hk⟩
theorem bothG_values {K : Kont} {a : Act} {F : World → Prop} {o : Oper} {S : Value → World → Prop}
    (h : ∀ w, Ext W w → ∃ v w', (execOp a.eval o).run P w = .ok (.value v) w' ∧ S v w' ∧ Ext w w') (hk : ∀ v x, S v x → K (a.put o.dst v) (And1 F x)) : bothG P W T o a F K :=
  ⟨fun w hw => by obtain ⟨v, w', h1, _, h3⟩ := h w hw; rw [h1]; exact h3, fun u x ⟨w, hw, hu⟩ => by
    obtain ⟨v, w', h1, h2, _⟩ := h w hw
    rw [h1] at hu
    obtain ⟨rfl, rfl⟩ := hu
    exact hk _ _ h2⟩
theorem bothG_float {K : Kont} (hK : Anti K) {a : Act} {F : World → Prop} {o : Oper} {b : BinOp} {t ty : TypeId} {l r : Operand} (ho : o.op = .binOp b t l r ty)
    {x y X Y : Nat} (hb : arith b = true) (hl : a.eval l = .float .f64 x) (hr : a.eval r = .float .f64 y) (hx : Is x X) (hy : Is y Y)
    (hk : ∀ v, Is v (fop b X Y) → v < 2 ^ 64 → K (a.put o.dst (.float .f64 v)) F) : bothG P W T o a F K := by
  refine bothG_values (S := fun u _ => ∃ v, u = .float .f64 v ∧ Is v (fop b X Y) ∧ v < 2 ^ 64) ?_ (fun u x ⟨v, hu, h1, h2⟩ => hK _ _ _ (fun y hy => hy.1) (hu ▸ hk v h1 h2))
  intro w _
  obtain ⟨v, m, h1, h2, h3⟩ := run_float_any P w b hb t hx hy
  refine ⟨.float .f64 v, w.drewN m, ?_, ⟨v, rfl, h2, h3⟩, ⟨rfl, rfl, rfl, Nat.le_refl _, fun _ _ => rfl⟩⟩
  have hg : Sem.run P (eqGuard b t l r (.float .f64 x) (.float .f64 y)) w = .ok () w := by
    cases b <;> simp only [arith, Bool.false_eq_true] at hb <;> rfl
  unfold execOp
  simp only [ho, hl, hr, Sem.run_bind, hg, h1, Result.andThen_ok, Sem.run_pure]
theorem bothG_call {K : Kont} {a : Act} {F : World → Prop} {o : Oper} {f : FuncId} {args : Array Value} (h : ∀ w', (execOp a.eval o).run P w' = .ok (.enter f args) w')
    (hc : ∀ w', Ext W w' → Calls P f args w' (fun e w'' => ∃ u, e = .returned u ∧ T f args u w'' ∧ Ext w' w'')) (hk : ∀ u x, T f args u x → K (a.put o.dst u) (And1 F x)) : bothG P W T o a F K :=
  ⟨fun w hw => by rw [h w]; exact ⟨rfl, hc w hw⟩, fun u x ⟨w, _, hu⟩ => by rw [h w] at hu; exact hk u x hu.1⟩
/-- new memory: a block at some place, which is there at the end -/
theorem bothG_alloc {K : Kont} {a : Act} {F : World → Prop} {o : Oper} {ob : Obj} (h : ∀ w', (execOp a.eval o).run P w' = .ok (.value (.pointer (some ⟨w'.heap.size, 0, none⟩))) (w'.alloc ob))
    (hk : ∀ n x, W.heap.size ≤ n → n < x.heap.size → x.heap[n]? = some ob → K (a.put o.dst (.pointer (some ⟨n, 0, none⟩))) (And1 F x)) : bothG P W T o a F K := by
  refine bothG_values (S := fun u x => ∃ n, u = .pointer (some ⟨n, 0, none⟩) ∧ W.heap.size ≤ n ∧ n < x.heap.size ∧ x.heap[n]? = some ob) ?_ (fun u x ⟨n, hu, h1, h2, h3⟩ => hu ▸ hk n x h1 h2 h3)
  intro w hw
  refine ⟨_, _, h w, ⟨_, rfl, hw.size, by simp, ?_⟩, (Below.refl _ w).alloc (Nat.le_refl _) ob⟩
  show (w.heap.push ob)[w.heap.size]? = some ob
  simp
/-- a whole row stored into a block of the call's own: what is known of the world behind it -/
theorem wpList_store_new {P : Program} {ops : Array Oper} {rest : List Oper} {o : Oper} {a : Act} {w : World} {Q : Exit → Act → World → Prop} (hgd : o.guard = none) {ty : TypeId} {x y : Operand} (ho : o.op = .store ty x y)
    {g : Nat} {cells : Array Value} (hx : a.eval x = .pointer (some ⟨g, 0, none⟩)) (hy : a.eval y = .agg cells)
    {t : TypeId} {old : Array Value} (hg : w.heap[g]? = some (.cells old t (0, 0))) (hi : (P.info? ty).map (·.size) = some cells.size)
    (hold : old.size = cells.size) (h1 : cells.all (·.oneCell') = true) {B : Nat} {w0 : World} (hb : Below B w0 w) (hB : B ≤ g)
    (h : ∀ w2, w2.heap[g]? = some (.cells cells t (0, 0)) → Below B w0 w2 → w2.heap.size = w.heap.size → (∀ k, k ≠ g → w2.heap[k]? = w.heap[k]?) → wpList P ops Q rest (a.put o.dst undef) w2) : wpList P ops Q (o :: rest) a w :=
  wpList_store_row hgd ty x y ho g cells hx hy t old hg hi hold h1 (h _ (setRow_heap w g old cells t (0, 0) hg)
    (hb.trans ⟨rfl, rfl, rfl, by simp, fun k hk => setRow_other w g k cells (by omega)⟩) (by simp) (fun k hk => setRow_other w g k cells hk))
theorem cell_of_heap {w : World} {g : Nat} {cells : Array Value} {t : TypeId} {fr : Nat × Nat} (h : w.heap[g]? = some (.cells cells t fr)) (i : Nat) : w.cell? ⟨g, i, none⟩ = cells[i]? := by
  simp [World.cell?, h]
end
end Lk
