import Derived.Test.YtgdkmakmdomdbaaPnWk
set_option autoImplicit false
set_option linter.unusedVariables false
namespace Go.Proofs.Ytgdkmakmdomdbaa
open Go.RowKit Lk Pn
/-- one of several plans: its blocks, where it lies, what it is -/
structure P1 where
  S : Nat → Prop
  p : Nat
  st : Pl
/-- several plans, apart from one another -/
structure PSs (B : Nat) (w : World) (l : List P1) : Prop where
  all : ∀ x ∈ l, PS B w x.S x.p x.st
  dis : l.Pairwise (fun a b => ∀ k, a.S k → ¬ b.S k)
theorem PSs.nil (B : Nat) (w : World) : PSs B w [] := ⟨fun x hx => by simp at hx, List.Pairwise.nil⟩
theorem PSs.below {B : Nat} {w w' : World} {l : List P1} (h : PSs B w l) (b : Below w.heap.size w w') : PSs B w' l := ⟨fun x hx => (h.all x hx).below b, h.dis⟩
/-- one more -/
theorem PSs.new {B : Nat} {w w' : World} {l : List P1} {S : Nat → Prop} {p : Nat} {st : Pl} (h : PSs B w l) (b : Below w.heap.size w w') (h1 : PS B w' S p st) (hS : ∀ k, S k → w.heap.size ≤ k) : PSs B w' (l ++ [⟨S, p, st⟩]) := by
  refine ⟨fun x hx => ?_, ?_⟩
  · rcases List.mem_append.1 hx with hx | hx
    · exact (h.all x hx).below b
    · obtain rfl := List.mem_singleton.1 hx; exact h1
  · rw [List.pairwise_append]
    refine ⟨h.dis, List.pairwise_singleton _ _, fun a ha c hc k hk hk2 => ?_⟩
    obtain rfl := List.mem_singleton.1 hc
    have := (h.all a ha).inS k hk
    have := hS k hk2
    omega
/-- the one that a call turned -/
theorem PSs.turn {B : Nat} {w w' : World} {pre post : List P1} {S S' : Nat → Prop} {p : Nat} {st st' : Pl} (h : PSs B w (pre ++ ⟨S, p, st⟩ :: post)) (f : Fr S w w') (h1 : PS B w' S' p st') (hS : ∀ k, S' k → S k ∨ w.heap.size ≤ k) : PSs B w' (pre ++ ⟨S', p, st'⟩ :: post) := by
  have d := h.dis
  rw [List.pairwise_append, List.pairwise_cons] at d
  obtain ⟨d1, ⟨d2, d3⟩, d4⟩ := d
  refine ⟨fun x hx => ?_, ?_⟩
  · rcases List.mem_append.1 hx with hx | hx
    · exact (h.all x (List.mem_append_left _ hx)).apart f fun k hk hk2 => d4 x hx ⟨S, p, st⟩ (by simp) k hk hk2
    · rcases List.mem_cons.1 hx with rfl | hx
      · exact h1
      · exact (h.all x (by simp [hx])).apart f fun k hk hk2 => d2 x hx k hk2 hk
  · rw [List.pairwise_append, List.pairwise_cons]
    refine ⟨d1, ⟨fun a ha k hk hk2 => ?_, d3⟩, fun a ha c hc k hk hk2 => ?_⟩
    · rcases hS k hk with e | e
      · exact d2 a ha k e hk2
      · have := (h.all a (by simp [ha])).inS k hk2; omega
    · rcases List.mem_cons.1 hc with rfl | hc
      · rcases hS k hk2 with e | e
        · exact d4 a ha ⟨S, p, st⟩ (by simp) k hk e
        · have := (h.all a (List.mem_append_left _ ha)).inS k hk; omega
      · exact d4 a ha c (by simp [hc]) k hk hk2
theorem PSs.get {B : Nat} {w : World} {pre post : List P1} {x : P1} (h : PSs B w (pre ++ x :: post)) : PS B w x.S x.p x.st := h.all x (by simp)
end Go.Proofs.Ytgdkmakmdomdbaa

set_option autoImplicit false
set_option linter.unusedVariables false
namespace Go.Proofs.Ytgdkmakmdomdbaa
open Go.RowKit Lk Pn
theorem own_lt' {w : World} {B E sz n : Nat} {v : Value} {xs : List Value} (h : w.ownsRow B E sz v n xs) {g : Nat} (hg : v.ownBlock = some g) : B ≤ g ∧ g < w.heap.size := h.lt g hg
theorem PSs.frb {B : Nat} {w w' : World} {pre post : List P1} {x : P1} (h : PSs B w (pre ++ x :: post)) (f : Fr x.S w w') (hB : B ≤ w.heap.size) : Below B w w' := h.get.frb f hB
/-- a row of one's own apart from all plans -/
def Off (l : List P1) (g : Nat) : Prop := ∀ x ∈ l, ¬ x.S g
theorem Off.turn {w : World} {pre post : List P1} {S S' : Nat → Prop} {p p' : Nat} {st st' : Pl} {g : Nat} (h : Off (pre ++ ⟨S, p, st⟩ :: post) g) (hg : g < w.heap.size) (hS : ∀ k, S' k → S k ∨ w.heap.size ≤ k) : Off (pre ++ ⟨S', p', st'⟩ :: post) g := by
  intro x hx
  rcases List.mem_append.1 hx with hx | hx
  · exact h x (List.mem_append_left _ hx)
  · rcases List.mem_cons.1 hx with rfl | hx
    · exact fun e => (hS g e).elim (h ⟨S, p, st⟩ (by simp)) (by omega)
    · exact h x (by simp [hx])
theorem t_until (B M : Nat) (hM : M ≤ 4194304) (hM1 : 1 ≤ M) (pre post : List P1) (S : Nat → Prop) (p : Nat) (st : Pl) (tick : Int) (w : World) (h : PSs B w (pre ++ ⟨S, p, st⟩ :: post)) (hB : B ≤ w.heap.size) (inv : Inv M st) :
    Calls Try.prog 18 #[.pointer (some ⟨p, 0, none⟩), .int .i64 tick] w (fun e w' => ∃ v S', e = .returned v ∧ w'.ownsRow w.heap.size 42 4 v (untilP st tick).2.length (slv (untilP st tick).2) ∧ PSs B w' (pre ++ ⟨S', p, (untilP st tick).1⟩ :: post) ∧ (∀ g, v.ownBlock = some g → Off (pre ++ ⟨S', p, (untilP st tick).1⟩ :: post) g) ∧ (∀ k, S' k → S k ∨ w.heap.size ≤ k) ∧ Fr S w w' ∧ Below B w w') := by
  refine (c_until B M hM hM1 p S st tick w h.get hB inv).mono ?_
  rintro e w' ⟨v, S', he, ow, h1, hS, hn, f⟩
  refine ⟨v, S', he, ow, h.turn f h1 hS, fun g hg x hx => ?_, hS, f, h.get.frb f hB⟩
  have gl := (own_lt' ow hg)
  rcases List.mem_append.1 hx with hx | hx
  · exact fun e => by have := (h.all x (List.mem_append_left _ hx)).inS g e; omega
  · rcases List.mem_cons.1 hx with rfl | hx
    · exact hn g hg
    · exact fun e => by have := (h.all x (by simp [hx])).inS g e; omega
theorem t_next (B M : Nat) (hM : M ≤ 4194304) (hM1 : 1 ≤ M) (pre post : List P1) (S : Nat → Prop) (p : Nat) (st : Pl) (w : World) (h : PSs B w (pre ++ ⟨S, p, st⟩ :: post)) (hB : B ≤ w.heap.size) (inv : Inv M st) (hlen : st.l.length ≤ 4194304) :
    Calls Try.prog 17 #[.pointer (some ⟨p, 0, none⟩)] w (fun e w' => ∃ S', e = .returned (.tuple #[.agg (slc (nextP st).2.1), .int .i64 (nextP st).2.2]) ∧ PSs B w' (pre ++ ⟨S', p, (nextP st).1⟩ :: post) ∧ (∀ k, S' k → S k ∨ w.heap.size ≤ k) ∧ Fr S w w' ∧ Below B w w') := by
  refine (c_next B M hM hM1 p S st w h.get hB inv hlen).mono ?_
  rintro e w' ⟨S', he, h1, hS, f⟩
  exact ⟨S', he, h.turn f h1 hS, hS, f, h.get.frb f hB⟩
theorem t_set (B M : Nat) (hM : M ≤ 4194304) (pre post : List P1) (S : Nat → Prop) (p : Nat) (st : Pl) (i : Int) (t : Tk) (w : World) (h : PSs B w (pre ++ ⟨S, p, st⟩ :: post)) (hB : B ≤ w.heap.size) (inv : Inv M st) :
    Calls Try.prog 19 #[.pointer (some ⟨p, 0, none⟩), .int .i64 i, .agg #[.int .i64 t.ev, .int .i64 t.lg, .int .i64 t.rk]] w (fun e w' => ∃ S', e = .returned (.int .i64 (setP st i t).2) ∧ PSs B w' (pre ++ ⟨S', p, (setP st i t).1⟩ :: post) ∧ (∀ k, S' k → S k ∨ w.heap.size ≤ k) ∧ Fr S w w' ∧ Below B w w') := by
  refine (c_set B M hM p S st i t w h.get hB inv).mono ?_
  rintro e w' ⟨S', he, h1, hS, f⟩
  exact ⟨S', he, h.turn f h1 hS, hS, f, h.get.frb f hB⟩
theorem t_new (B : Nat) (l : List P1) (a : Option Addr) (n cap : Nat) (L : List Tk) (w : World) (h : PSs B w l) (ts : Ts w a n cap L) (hB : B ≤ w.heap.size) (hE : newE L = 0) :
    Calls Try.prog 10 #[.slice a n cap] w (fun e w' => ∃ p S, e = .returned (.tuple #[.pointer (some ⟨p, 0, none⟩), .int .i64 0]) ∧ PSs B w' (l ++ [⟨S, p, newP L⟩]) ∧ Below w.heap.size w w') := by
  refine (c_new B a n cap L w ts hB hE).mono ?_
  rintro e w' ⟨p, S, he, h1, hS, b⟩
  exact ⟨p, S, he, h.new b h1 hS, b⟩
end Go.Proofs.Ytgdkmakmdomdbaa
