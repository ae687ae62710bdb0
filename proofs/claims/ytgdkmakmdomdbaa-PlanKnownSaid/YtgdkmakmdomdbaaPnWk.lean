import Derived.Test.YtgdkmakmdomdbaaPnNx
import Derived.Test.YtgdkmakmdomdbaaPnLo
import Derived.Test.YtgdkmakmdomdbaaPnL
set_option autoImplicit false
set_option linter.unusedVariables false
namespace Go.Proofs.Ytgdkmakmdomdbaa
open Go.RowKit Lk Pn
theorem wk_e : newE [⟨4, 1, 0⟩, ⟨6, 2, 0⟩] = 0 := by kernel_rfl
theorem wk_a : (nextP W0).2 = (⟨0, 0, 1, false⟩, 0) := by kernel_rfl
theorem wk_l : (untilP W1 7).2 = [⟨1, 1, 3, false⟩, ⟨0, 4, 5, false⟩, ⟨1, 6, 7, false⟩] := by kernel_rfl
theorem wk_n : W2.now = 7 := by kernel_rfl
theorem wk_d : loadF (tks W2.l) = (7, 12) := by kernel_rfl
theorem wk_s : (setP W2 0 ⟨9, 2, 0⟩).2 = 0 := by kernel_rfl
theorem wk_m : W3.now = 7 := by kernel_rfl
theorem wk_t : (setP W3 2 ⟨1, 1, 0⟩).2 = 240 := by kernel_rfl
/-! calls on a plan, in words that a law's walk carries along -/
structure PS (B : Nat) (w : World) (S : Nat → Prop) (p : Nat) (st : Pl) : Prop where
  pa : ∃ lb cap vs, PAx cY w S p lb cap vs st
  lo : ∀ k, S k → B ≤ k
theorem PS.apart {B : Nat} {w w' : World} {S T : Nat → Prop} {p : Nat} {st : Pl} (h : PS B w S p st) (f : Fr T w w') (ha : ∀ k, S k → ¬ T k) : PS B w' S p st := by
  obtain ⟨lb, cap, vs, q⟩ := h.pa
  exact ⟨⟨lb, cap, vs, q.keep (fun k hk => f.block k (q.inS k hk) (ha k hk)) (fun _ h => h) fun k hk => Nat.lt_of_lt_of_le (q.inS k hk) f.size⟩, h.lo⟩
theorem PS.below {B : Nat} {w w' : World} {S : Nat → Prop} {p : Nat} {st : Pl} (h : PS B w S p st) (b : Below w.heap.size w w') : PS B w' S p st := by
  obtain ⟨lb, cap, vs, q⟩ := h.pa
  exact ⟨⟨lb, cap, vs, q.below b⟩, h.lo⟩
theorem PS.inS {B : Nat} {w : World} {S : Nat → Prop} {p : Nat} {st : Pl} (h : PS B w S p st) : ∀ k, S k → k < w.heap.size := by
  obtain ⟨lb, cap, vs, q⟩ := h.pa
  exact q.inS
theorem PS.frb {B : Nat} {w w' : World} {S : Nat → Prop} {p : Nat} {st : Pl} (h : PS B w S p st) (f : Fr S w w') (hB : B ≤ w.heap.size) : Below B w w' := f.below hB h.lo
/-- New -/
theorem c_new (B : Nat) (a : Option Addr) (n cap : Nat) (L : List Tk) (w : World) (ts : Ts w a n cap L) (hB : B ≤ w.heap.size) (hE : newE L = 0) :
    Calls Try.prog 10 #[.slice a n cap] w (fun e w' => ∃ p S, e = .returned (.tuple #[.pointer (some ⟨p, 0, none⟩), .int .i64 0]) ∧ PS B w' S p (newP L) ∧ (∀ k, S k → w.heap.size ≤ k) ∧ Below w.heap.size w w') :=
  (new_walk a n cap L w ts).mono fun e w' h => by
    obtain ⟨p, lb, c, vs, S', he, hp, hS⟩ := h.ok hE
    exact ⟨p, S', he, ⟨⟨lb, c, vs, hp⟩, fun k hk => Nat.le_trans hB (hS k hk)⟩, hS, h.b⟩
theorem c_next (B M : Nat) (hM : M ≤ 4194304) (hM1 : 1 ≤ M) (p : Nat) (S : Nat → Prop) (st : Pl) (w : World) (h : PS B w S p st) (hB : B ≤ w.heap.size) (inv : Inv M st) (hlen : st.l.length ≤ 4194304) :
    Calls Try.prog 17 #[.pointer (some ⟨p, 0, none⟩)] w (fun e w' => ∃ S', e = .returned (.tuple #[.agg (slc (nextP st).2.1), .int .i64 (nextP st).2.2]) ∧ PS B w' S' p (nextP st).1 ∧ (∀ k, S' k → S k ∨ w.heap.size ≤ k) ∧ Fr S w w') := by
  obtain ⟨lb, cap, vs, q⟩ := h.pa
  refine (next_walk M hM hM1 p lb cap vs S st w q inv hlen).mono ?_
  rintro e w' ⟨he, ⟨lb', cap', vs', S', hp, hS⟩, hf⟩
  exact ⟨S', he, ⟨⟨lb', cap', vs', hp⟩, fun k hk => (hS k hk).elim (h.lo k) (Nat.le_trans hB)⟩, hS, hf⟩
theorem c_until (B M : Nat) (hM : M ≤ 4194304) (hM1 : 1 ≤ M) (p : Nat) (S : Nat → Prop) (st : Pl) (tick : Int) (w : World) (h : PS B w S p st) (hB : B ≤ w.heap.size) (inv : Inv M st) :
    Calls Try.prog 18 #[.pointer (some ⟨p, 0, none⟩), .int .i64 tick] w (fun e w' => ∃ v S', e = .returned v ∧ w'.ownsRow w.heap.size 42 4 v (untilP st tick).2.length (slv (untilP st tick).2) ∧ PS B w' S' p (untilP st tick).1 ∧ (∀ k, S' k → S k ∨ w.heap.size ≤ k) ∧ (∀ g, v.ownBlock = some g → ¬ S' g) ∧ Fr S w w') := by
  obtain ⟨lb, cap, vs, q⟩ := h.pa
  refine (until_walk M hM hM1 p lb cap vs S st tick w q inv).mono ?_
  rintro e w' ⟨v, vs', S', he, ho, hp, hS, hn, hf⟩
  exact ⟨v, S', he, ho, ⟨⟨lb, cap, vs', hp⟩, fun k hk => (hS k hk).elim (h.lo k) (Nat.le_trans hB)⟩, hS, hn, hf⟩
theorem c_set (B M : Nat) (hM : M ≤ 4194304) (p : Nat) (S : Nat → Prop) (st : Pl) (i : Int) (t : Tk) (w : World) (h : PS B w S p st) (hB : B ≤ w.heap.size) (inv : Inv M st) :
    Calls Try.prog 19 #[.pointer (some ⟨p, 0, none⟩), .int .i64 i, .agg #[.int .i64 t.ev, .int .i64 t.lg, .int .i64 t.rk]] w (fun e w' => ∃ S', e = .returned (.int .i64 (setP st i t).2) ∧ PS B w' S' p (setP st i t).1 ∧ (∀ k, S' k → S k ∨ w.heap.size ≤ k) ∧ Fr S w w') := by
  obtain ⟨lb, cap, vs, q⟩ := h.pa
  refine (set_walk M hM p lb cap vs S st i t w q inv).mono ?_
  rintro e w' ⟨he, ⟨vs', hp⟩, hf⟩
  exact ⟨_, he, ⟨⟨lb, cap, vs', hp⟩, fun k hk => hk.elim (h.lo k) (fun e => Nat.le_trans hB e.1)⟩, fun k hk => hk.imp id (·.1), hf⟩
theorem c_load (B M : Nat) (hM : M ≤ 4194304) (p : Nat) (S : Nat → Prop) (st : Pl) (w : World) (h : PS B w S p st) (inv : Inv M st) :
    Calls Try.prog 13 #[.pointer (some ⟨p, 0, none⟩)] w (fun e w' => e = .returned (.tuple #[.int .i64 (loadF (tks st.l)).1, .int .i64 (loadF (tks st.l)).2]) ∧ Below w.heap.size w w') := by
  obtain ⟨lb, cap, vs, q⟩ := h.pa
  exact load_walk p lb cap vs S st w q fun x hx => okl_of (inv.ln x hx) hM inv.n1
theorem c_now (B p : Nat) (S : Nat → Prop) (st : Pl) (w : World) (h : PS B w S p st) : Calls Try.prog 15 #[.pointer (some ⟨p, 0, none⟩)] w (fun e w' => e = .returned (.int .i64 st.now) ∧ w = w') := by
  obtain ⟨lb, cap, vs, q⟩ := h.pa
  exact now_walk p lb cap vs S st w q
end Go.Proofs.Ytgdkmakmdomdbaa
