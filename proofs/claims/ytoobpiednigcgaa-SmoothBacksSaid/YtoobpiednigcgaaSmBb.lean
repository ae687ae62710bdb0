import Derived.Test.YtoobpiednigcgaaSmBa
set_option autoImplicit false
set_option linter.unusedVariables false
namespace Go.Proofs.Ytoobpiednigcgaa
open Go.RowKit Lk
theorem backR_lt {L : List St} {S : List Nat} {q : Nat} (h : ∀ s ∈ L, St.Lt s) : ∀ s ∈ backR L S q, St.Lt s := by
  unfold backR
  split
  · exact back_lt h
  · intro s hs; cases hs
theorem back_in (f : FuncId) (K : Nat) (R : List St) (E : Int) (args : Array Value) (w : World) (L : List St) (S : List Nat) (q : Nat) (hl : ∀ s ∈ L, St.Lt s) (hK : K = (backR L S q).length) (hR : R = backR L S q) (hE : E = backE L S q) (h : Calls Try.prog f args w (BackP L S q w)) :
    Calls Try.prog f args w (fun e w' => ∃ a c, e = .returned (.tuple #[.slice a K c, .int .i64 E]) ∧ Ss w' a K c R ∧ (K = 0 ∨ ∃ g, a = some ⟨g, 0, none⟩ ∧ w.heap.size ≤ g ∧ OutS w' g R) ∧ Below w.heap.size w w') := by
  refine h.mono ?_
  rintro e w' ⟨v, rfl, rs, hb⟩
  obtain ⟨a, c, rfl, h1, h2⟩ := ss_of_rs rs (backR_lt hl)
  subst hK hR hE
  exact ⟨a, c, rfl, h1, h2, hb⟩
theorem outS_size {w : World} {g K : Nat} {R : List St} (h : OutS w g R) (hK : R.length = K) : K = 0 ∨ ∃ cur, w.heap[g]? = some (.cells cur 27 (0, 0)) ∧ K * 5 ≤ cur.size := by
  obtain ⟨cur, h1, h2⟩ := h
  by_cases h0 : K = 0
  · exact .inl h0
  · have h3 := (h2 (K - 1) _ (List.getElem?_eq_getElem (by omega))).c4
    have := (Array.getElem?_eq_some_iff.1 h3).1
    exact .inr ⟨cur, h1, by omega⟩
set_option maxRecDepth 100000 in
set_option maxHeartbeats 8000000 in
theorem backs_law (p : Option Addr) (N c : Nat) (L : List St) (p' : Option Addr) (M c' : Nat) (S : List Nat) (q : Nat) (w : World) (s0 : Ss w p N c L) (s1 : Fs w p' M c' S) (hq : q < 2 ^ 64) :
    Calls Try.prog 3 #[.slice p N c, .slice p' M c', .float .f64 q] w (fun e w' => e = .returned (.bool true) ∧ Below w.heap.size w w') := by
  have n63 : N ≤ 9223372036854775807 := Nat.le_trans s0.le s0.small
  have m63 : M ≤ 9223372036854775807 := Nat.le_trans s1.le s1.small
  have S0 := Lib.hid s0
  have S1 := Lib.hid s1
  clear s0 s1
  by_cases g : N ≤ 1048576 ∧ M ≤ 1048576
  case neg =>
    have hz : (1048576 : Int) < (N : Int) ∨ (¬ (1048576 : Int) < (N : Int) ∧ (1048576 : Int) < (M : Int)) := by omega
    clear g S0 S1
    rcases hz with z | ⟨z1, z⟩
    all_goals
      go_enter Try.func3, Try.ntmps3
      go_wp2_with fail
      refine (works_walk _).mono ?_
      rintro e w1 ⟨rfl, b1⟩
      have B1 := Lib.hid b1
      clear b1
      go_wp2_with fail
      go_ret
      exact ⟨rfl, B1.out⟩
  obtain ⟨g1, g2⟩ := g
  have g1i : ¬ (1048576 : Int) < (N : Int) := by omega
  have g2i : ¬ (1048576 : Int) < (M : Int) := by omega
  obtain ⟨K, hK⟩ : ∃ K, K = (backR L S q).length := ⟨_, rfl⟩
  obtain ⟨R, hR⟩ : ∃ R, R = backR L S q := ⟨_, rfl⟩
  obtain ⟨E, hE⟩ : ∃ E, E = backE L S q := ⟨_, rfl⟩
  have KR := Lib.hid (show R.length = K by rw [hR, hK])
  have BI := Lib.hid (fun f args w => back_in f K R E args w L S q S0.out.lt hK hR hE)
  have HQ := Lib.hid hq
  clear hK hR hE hq
  go_enter Try.func3, Try.ntmps3
  go_wp2_with (first
    | (refine wpList_append_ss rfl (.const (.slice none 0 0)) (.tmp 23) rfl w.heap.size _ 0 [] rfl (World.ownsRow_nil _ _ _ _) rfl S0.out (by omega) (Nat.le_refl _) ?_; intro a3 c3 w3 ow gr; have B3 := Lib.hid (grownB (B := w.heap.size) (w := w) (Below.refl _ w) gr (World.ownsRow_nil w w.heap.size 27 5) (Nat.le_refl _)); have O3 : Hid (w3.ownsRow w.heap.size 27 5 (.slice a3 N c3) N (flat L)) := Lib.hid (by simpa using ow); have z3 := B3.out.size; clear ow gr)
    | (refine wpList_append_ss rfl (.tmp 25) (.tmp 27) rfl w.heap.size _ N (flat L) rfl (O3.out.alloc _) rfl (one_ss (s := mark5) (Deep.blk_alloc_new w3 _) mark_lt) (by omega) (by simp; omega) ?_; intro a5 c5 w5 ow gr; have B5 := Lib.hid (grownB (B3.out.alloc z3 _) gr (O3.out.alloc _) (by simp; omega)); obtain ⟨g5, e5, hg5⟩ := own_some ow (by omega); subst e5; have L5 : Hid (Ls w5 w.heap.size g5 N c5 L) := Lib.hid ⟨by rw [← flat_snoc]; exact ow, S0.out.len, S0.out.lt, g1⟩; have hr := run_reslice22 g5 N (N + 1) c5 (by have := L5.out.cap; omega) (by omega); clear ow gr hg5 O3 B3 z3))
  clear hr
  refine (own_walk _ _ _ _ _ (S1.out.keep B5.out) g2).mono ?_
  rintro e w6 ⟨u, cu, rfl, f1, b6⟩
  have T6 := Lib.hid f1
  have X6 := Lib.hid (L5.out.keep b6)
  have B6 := Lib.hid (B5.out.trans (b6.mono B5.out.size))
  clear f1 b6 L5 B5
  go_wp2_with fail
  refine (BI.out 11 _ _ (back_walk _ _ N M c5 cu L S q _ X6.out.ss T6.out.fs HQ.out)).mono ?_
  rintro e w7 ⟨pa, ca, rfl, sa, oa, b7⟩
  have C7 := Lib.hid b7
  have SA7 := Lib.hid sa
  have OA7 := Lib.hid oa
  have B7 := Lib.hid (B6.out.trans (b7.mono B6.out.size))
  clear sa oa b7
  go_wp2_with fail
  refine (BI.out 12 _ _ (rback_walk _ _ N M c c' L S q _ (S0.out.keep B7.out) (S1.out.keep B7.out))).mono ?_
  rintro e w8 ⟨pb, cb, rfl, sb, _, b8⟩
  have C8 := Lib.hid (C7.out.trans (b8.mono C7.out.size))
  have SA8 := Lib.hid (SA7.out.keep b8)
  have SB8 := Lib.hid sb
  have K63 : K ≤ 9223372036854775807 := Nat.le_trans sb.le sb.small
  have OA8 : Hid (K = 0 ∨ ∃ g cur, pa = some ⟨g, 0, none⟩ ∧ w6.heap.size ≤ g ∧ w8.heap[g]? = some (.cells cur 27 (0, 0)) ∧ K * 5 ≤ cur.size) := Lib.hid (by
    rcases OA7.out with h | ⟨g, h1, h2, h3⟩
    · exact .inl h
    · rcases outS_size (h3.keep b8) KR.out with h | ⟨cur, h4, h5⟩
      · exact .inl h
      · exact .inr ⟨g, cur, h1, h2, h4, h5⟩)
  clear sb b8 C7 SA7 OA7 B7 BI
  go_wp2_with fail
  refine (sames_walk _ _ K ca cb R _ SA8.out SB8.out).mono ?_
  rintro e w9 ⟨rfl, b9⟩
  have D9 := Lib.hid b9
  have C9 := Lib.hid (C8.out.trans (b9.mono C8.out.size))
  clear b9 SA8 SB8
  go_wp2_with fail
  refine (sames_walk _ _ N c5 c L _ (X6.out.ss.keep C9.out) (S0.out.keep (B6.out.trans (C9.out.mono B6.out.size)))).mono ?_
  rintro e w10 ⟨rfl, b10⟩
  have D10 := Lib.hid (D9.out.trans (b10.mono D9.out.size))
  have C10 := Lib.hid (C9.out.trans (b10.mono C9.out.size))
  obtain ⟨h1, h2, h3⟩ := X6.out.cap
  have hr := run_reslice22 g5 (N + 1) N c5 (by omega) (by omega)
  have n1 : ((N + 1 : Nat) : Int) = (N : Int) + 1 := by omega
  rw [n1] at hr
  have hm : w10.cell? ⟨g5, N * 5, none⟩ = some (.float .f64 4635118810238550016) := (C10.out.cell (p := ⟨g5, N * 5, none⟩) h3).trans X6.out.mark
  have h4 : g5 < w10.heap.size := Nat.lt_of_lt_of_le h3 C10.out.size
  have q0 : FloatKind.f64.format.order 4635118810238550016 4635118810238550016 = some .eq := by decide +kernel
  clear b10 D9 C9 n1 h1 h2 h3
  go_wp2_with fail
  refine (kept_walk _ _ _ _ _ _ _ _ (T6.out.keep C10.out) (S1.out.keep (B6.out.trans (C10.out.mono B6.out.size)))).mono ?_
  rintro e w11 ⟨rfl, b11⟩
  have C11 := Lib.hid (C10.out.trans (b11.mono C10.out.size))
  have D11 := Lib.hid (D10.out.trans (b11.mono D10.out.size))
  have OA11 : Hid (K = 0 ∨ ∃ g cur, pa = some ⟨g, 0, none⟩ ∧ w6.heap.size ≤ g ∧ w11.heap[g]? = some (.cells cur 27 (0, 0)) ∧ K * 5 ≤ cur.size) :=
    Lib.hid (OA8.out.imp id fun ⟨g, cur, h1, h2, h3, h4⟩ => ⟨g, cur, h1, h2, (D11.out.block _ (Array.getElem?_eq_some_iff.1 h3).1).trans h3, h4⟩)
  clear b11 hr hm h4 q0 C10 D10 D11 OA8 T6
  go_wp2_with fail
  go_loopw [84] (fun i wr => ∃ k : Nat, i = .int .i64 k ∧ k ≤ K ∧ Below w6.heap.size w6 wr ∧ (K = 0 ∨ ∃ g cur, pa = some ⟨g, 0, none⟩ ∧ w6.heap.size ≤ g ∧ wr.heap[g]? = some (.cells cur 27 (0, 0)) ∧ K * 5 ≤ cur.size)) (fun i _ => K - (intOf i).toNat)
  case atStart => exact ⟨0, rfl, by omega, C11.out, OA11.out⟩
  case round =>
    clear C11 OA11
    obtain ⟨k, rfl, hk, hc, ho⟩ := hrel
    have CR := Lib.hid hc
    clear hc
    by_cases hlt : k < K
    · rcases ho with h | ⟨g, cur, rfl, hg, hcur, hsz⟩
      · omega
      have lg : g < wr.heap.size := (Array.getElem?_eq_some_iff.1 hcur).1
      have kK : (k : Int) < (K : Int) := by omega
      have HG := Lib.hid hg
      clear hg
      go_wp2_with (refine wpList_store_at rfl rfl (g := g) (j := k * 5) rfl rfl hcur (by kernel_rfl) (by simp only [List.size_toArray, List.length_cons, List.length_nil]; omega) (one_fl5 _ _ _ _ _) ?_; intro w12 b12 o12; have C12 := Lib.hid (CR.out.trans (o12.below HG.out)); have S12 := Lib.hid b12; clear b12 o12 hcur)
      go_roundw
      case rel => exact ⟨k + 1, by go_num, by omega, C12.out, .inr ⟨g, _, rfl, HG.out, S12.out, by rw [putAll_size]; exact hsz⟩⟩
      case measure => simp only [intOf]; omega
    · clear ho
      go_wp2_with fail
      refine (sames_walk _ _ N c5 c L _ (X6.out.ss.keep CR.out) (S0.out.keep (B6.out.trans (CR.out.mono B6.out.size)))).mono ?_
      rintro e w13 ⟨rfl, b13⟩
      have C13 := Lib.hid (CR.out.trans (b13.mono CR.out.size))
      clear b13 CR
      go_wp2_with fail
      refine (works_walk _).mono ?_
      rintro e w14 ⟨rfl, b14⟩
      have C14 := Lib.hid (C13.out.trans (b14.mono C13.out.size))
      clear b14 C13
      go_wp2_with fail
      go_ret
      exact ⟨rfl, B6.out.trans (C14.out.mono B6.out.size)⟩
end Go.Proofs.Ytoobpiednigcgaa
