import Derived.Test.YtoobpiednigcgaaSmZ
import Derived.Test.YtoobpiednigcgaaSmU2
set_option autoImplicit false
set_option linter.unusedVariables false
namespace Go.Proofs.Ytoobpiednigcgaa
open Go.RowKit Lk
/-- the state that marks what lies behind a list -/
def mark5 : St := ⟨4635118810238550016, 0, 0, 0, 0⟩
/-- a list of states lent, with a mark behind it -/
structure Ls (w : World) (B g n c : Nat) (l : List St) : Prop where
  own : w.ownsRow B 27 5 (.slice (some ⟨g, 0, none⟩) (n + 1) c) (n + 1) (flat (l ++ [mark5]))
  len : l.length = n
  lt : ∀ x ∈ l, St.Lt x
  small : n ≤ 1048576
theorem Ls.keep {w w' : World} {B g n c : Nat} {l : List St} (h : Ls w B g n c l) (b : Below w.heap.size w w') : Ls w' B g n c l := ⟨ownsB h.own b, h.len, h.lt, h.small⟩
theorem Ls.cap {w : World} {B g n c : Nat} {l : List St} (h : Ls w B g n c l) : n + 1 ≤ c ∧ c ≤ 9223372036854775807 ∧ g < w.heap.size := by
  obtain ⟨g', e, h1, h2, h3, h4⟩ := own_some h.own (by omega)
  cases e
  exact ⟨h3, h4, h2⟩
theorem Ls.out {w : World} {B g n c : Nat} {l : List St} (h : Ls w B g n c l) : OutS w g (l ++ [mark5]) := outS_of h.own (by rw [List.length_append, h.len]; rfl)
theorem Ls.ss {w : World} {B g n c : Nat} {l : List St} (h : Ls w B g n c l) : Ss w (some ⟨g, 0, none⟩) n c l := by
  obtain ⟨h1, h2, h3⟩ := h.cap
  refine ⟨h.len, by omega, h2, h.lt, .inr ⟨g, 0, rfl, h3, fun j hj => ?_⟩, fun h => by cases h⟩
  rw [Nat.zero_add]
  exact h.out.at (by rw [List.getElem?_append_left hj, List.getElem?_eq_getElem hj])
theorem Ls.mark {w : World} {B g n c : Nat} {l : List St} (h : Ls w B g n c l) : w.cell? ⟨g, n * 5, none⟩ = some (.float .f64 4635118810238550016) :=
  (h.out.at (j := n) (s := mark5) (by rw [← h.len]; simp)).c0
theorem run_reslice22 (g n m cap : Nat) (h : n ≤ cap) (hs : n ≤ 9223372036854775807) (w : World) : (Instr.slice 22 (.slice (some ⟨g, 0, none⟩) m cap) none (some (.int .i64 (n : Int))) none).run Try.prog w = .ok (.slice (some ⟨g, 0, none⟩) n cap) w := by
  simp [Instr.slice, run_underlying Try.und22, Instr.sliceBounds, Instr.sliceBound, asIntOf, go_sem, h]
theorem one_ss {w : World} {b : Nat} {s : St} (h : w.heap[b]? = some (.cells #[.float .f64 s.x, .float .f64 s.v, .float .f64 s.pxx, .float .f64 s.pxv, .float .f64 s.pvv] 27 (0, 0))) (hl : St.Lt s) : Ss w (some ⟨b, 0, none⟩) 1 1 [s] :=
  ⟨rfl, by omega, by omega, (fun x hx => by rcases List.mem_cons.1 hx with rfl | hx; exact hl; cases hx), .inr ⟨b, 0, rfl, (Array.getElem?_eq_some_iff.1 h).1, fun j hj => by
    have hj0 : j = 0 := by simp only [List.length_cons, List.length_nil] at hj; omega
    subst hj0
    exact Bs.at (s := s) h⟩, fun h => by cases h⟩
theorem mark_lt : St.Lt mark5 := ⟨by decide, by decide, by decide, by decide, by decide⟩
theorem flat_snoc (l : List St) (s : St) : flat l ++ flat [s] = flat (l ++ [s]) := by unfold flat; rw [List.flatMap_append]
theorem ss_of_rs {w : World} {B : Nat} {v : Value} {R : List St} (h : RS w B v R) (hl : ∀ s ∈ R, St.Lt s) : ∃ a c, v = .slice a R.length c ∧ Ss w a R.length c R ∧ (R.length = 0 ∨ ∃ g, a = some ⟨g, 0, none⟩ ∧ B ≤ g ∧ OutS w g R) := by
  rcases h with ⟨h1, h2⟩ | ⟨g, co, h1, hB, h3, h4, h5⟩
  · subst h2
    exact ⟨none, 0, h1, ⟨rfl, Nat.le_refl _, by omega, hl, .inl rfl, fun _ => rfl⟩, .inl rfl⟩
  · exact ⟨_, co, h1, ⟨rfl, h3, h4, hl, .inr ⟨g, 0, rfl, h5.lt, fun j hj => by rw [Nat.zero_add]; exact h5.at (List.getElem?_eq_getElem hj)⟩, fun h => by cases h⟩, .inr ⟨g, rfl, hB, h5⟩⟩
def TSm (f : FuncId) (args : Array Value) (u : Value) (w : World) : Prop := f = 36 → u = .bool true
theorem tsm (s : St) (w : World) : Calls Try.prog 36 #[sv5 s, sv5 s] w (fun e w'' => ∃ u, e = .returned u ∧ TSm 36 #[sv5 s, sv5 s] u w'' ∧ Ext w w'') :=
  (same_walk s.x s.v s.pxx s.pxv s.pvv s.x s.v s.pxx s.pxv s.pvv w).mono fun e w' ⟨he, hb⟩ => ⟨_, he, fun _ => by rw [show sameS ⟨s.x, s.v, s.pxx, s.pxv, s.pvv⟩ ⟨s.x, s.v, s.pxx, s.pxv, s.pvv⟩ = true from sameS_is (IsS.refl _)], hb⟩
set_option maxHeartbeats 4000000 in
theorem sames_walk (a a' : Option Addr) (N c c' : Nat) (L : List St) (w : World) (s : Ss w a N c L) (s' : Ss w a' N c' L) :
    Calls Try.prog 13 #[.slice a N c, .slice a' N c'] w (fun e w' => e = .returned (.bool true) ∧ Below w.heap.size w w') := by
  have n63 : N ≤ 9223372036854775807 := Nat.le_trans s.le s.small
  have S0 := Lib.hid (And.intro s s')
  clear s s'
  go_enter Try.func13, Try.ntmps13
  go_wp2_with fail
  go_loopw [13] (fun i wr => ∃ k : Nat, k ≤ N ∧ i = .int .i64 k ∧ Below w.heap.size w wr) (fun i _ => N - (intOf i).toNat)
  case atStart => exact ⟨0, by omega, rfl, Below.refl _ _⟩
  case round =>
    obtain ⟨k, hk, rfl, hp⟩ := hrel
    have PR := Lib.hid hp
    clear hp
    by_cases hlt : k < N
    · obtain ⟨b, off, s, rfl, hb0, hs, hc, ls⟩ := (S0.out.1.keep PR.out).at hlt
      obtain ⟨b', off', s_, rfl, hb0', hs', hc', ls'⟩ := (S0.out.2.keep PR.out).at hlt
      obtain rfl : s = s_ := by rw [hs] at hs'; exact Option.some.inj hs'
      obtain ⟨a0, a1, a2, a3, a4⟩ := hc
      obtain ⟨d0, d1, d2, d3, d4⟩ := hc'
      have kN : (k : Int) < (N : Int) := by omega
      clear hs hs' ls ls'
      go_wp2_with fail
      refine wp_region_G TSm (by kernel_rfl) (by kernel_rfl) ?_
      repeat' (refine wpG_step' (fun K hA hK => ?_); go_simp; first | (refine bothG_value hA (v := ?_) (fun w' hw' => ?_) ?_; rotate_left; (· go_simp; rfl); (refine hK _ _ ?_; clear hK hA K)) | (refine bothG_call (f := 36) (args := ?_) (fun w' => ?_) (fun w' _ => ?_) ?_; rotate_left; (· go_simp; rfl); (· exact tsm s w'); (intro u y hu; have hu2 := hu rfl; subst hu2; clear hu; refine hK _ _ ?_; clear hK hA K)))
      refine wpG_nil ?_
      intro w2 hb hF
      have P2 := Lib.hid (PR.out.trans (hb.mono PR.out.size))
      clear hF hb a0 a1 a2 a3 a4 d0 d1 d2 d3 d4
      go_wp2_with fail
      go_roundw
      case rel => exact ⟨k + 1, by omega, by go_num, P2.out⟩
      case measure => simp only [intOf]; omega
    · go_wp2_with fail
      go_ret
      exact ⟨rfl, PR.out⟩
end Go.Proofs.Ytoobpiednigcgaa
