import Derived.Test.YtgdkmakmdomdbaaPnRz
set_option autoImplicit false
namespace Pn
/-! a long way off: two tasks, one of one tick each tick -/
def uL : Ln := ⟨⟨1099511627776, 1099511627776, 0⟩, 1099511627776, [⟨⟨1099511627776, 1099511627776, 0⟩, 0, 1⟩], 1099511627776⟩
def uS (i : Int) : Pl := ⟨[uL, ⟨⟨1, 1, 5⟩, i, [], 0⟩], i⟩
def uR (i : Int) : List Ln := [uL, ⟨⟨1, 1, 5⟩, i + 1, [⟨⟨1, 1, 5⟩, i, 1⟩], 1⟩]
theorem u_rel (i : Int) (h0 : 0 ≤ i) (h : i < 1000000) : rel i (uS i).l = uR i := by
  unfold uS uR rel
  simp only [List.map_cons, List.map_nil]
  rw [relE_no (show i < uL.nx by show i < 1099511627776; omega), relE_none (show ¬ i < (⟨⟨1, 1, 5⟩, i, [], 0⟩ : Ln).nx by simp) rfl]
  simp [relN]
theorem u_best (i : Int) (h0 : 0 ≤ i) (h : i < 1000000) : best (uR i) = ⟨i + 1, 5, 1⟩ := by
  have e : best (uR i) = bstep (bstep ⟨0, 0, -1⟩ 0 uL) 1 ⟨⟨1, 1, 5⟩, i + 1, [⟨⟨1, 1, 5⟩, i, 1⟩], 1⟩ := rfl
  have e1 : bstep ⟨0, 0, -1⟩ 0 uL = ⟨1099511627776, 0, 0⟩ := by simp [bstep, uL]
  rw [e, e1]
  unfold bstep
  simp only
  rw [if_pos]
  · rfl
  · rw [Bool.or_eq_true]; right; rw [bef_iff]; left; show i + 1 < 1099511627776; omega
theorem u_to (i : Int) : toOf (uR i) ⟨i + 1, 5, 1⟩ i = i + 1 := by
  unfold toOf lfAt uR
  simp [toK, tstep, uL]
theorem u_str (i T : Int) (h0 : 0 ≤ i) (h : i < 1000000) : strL (uS i).l (uS i).now T = (uR i, some (⟨1, i, i + 1, false⟩, i + 1)) := by
  have hn : (uS i).now = i := rfl
  unfold strL
  rw [hn, u_rel i h0 h, u_best i h0 h]
  simp only [show ¬ ((1 : Int) < 0) by omega, if_false]
  unfold slOf
  rw [u_to]; simp
theorem u_done (i : Int) : doneP (uR i) ⟨1, i, i + 1, false⟩ = uS (i + 1) := by
  unfold doneP uR uS setL
  simp [doneL, popW, show i + 1 - i = 1 by omega]
def uOut : Nat → Int → List Sl
  | 0, _ => []
  | f + 1, i => ⟨1, i, i + 1, false⟩ :: uOut f (i + 1)
theorem u_run (T : Int) : ∀ (f : Nat) (i : Int), 0 ≤ i → i + f ≤ T → T < 1000000 → untilK T f (uS i) = (uS (i + f), uOut f i)
  | 0, i, _, _, _ => by simp [untilK, uOut]
  | f + 1, i, h0, h1, h2 => by
    have hn : (uS i).now = i := rfl
    rw [untilK, if_neg (by rw [hn]; omega), u_str i T h0 (by omega)]
    simp only
    have c : cutS T (i + 1) ⟨1, i, i + 1, false⟩ = ⟨1, i, i + 1, false⟩ := by unfold cutS; rw [if_neg (by simp only; omega)]
    rw [c, u_done, u_run T f (i + 1) (by omega) (by omega) h2]
    simp only [uOut]
    rw [show i + 1 + (f : Int) = i + ((f + 1 : Nat) : Int) by omega]
theorem uOut_len : ∀ (f : Nat) (i : Int), (uOut f i).length = f
  | 0, _ => rfl
  | f + 1, i => by simp [uOut, uOut_len f]
theorem uOut_get : ∀ (f : Nat) (i : Int) (j : Nat), j < f → (uOut f i)[j]? = some ⟨1, i + j, i + j + 1, false⟩
  | 0, _, _, h => by omega
  | f + 1, i, 0, _ => by simp [uOut]
  | f + 1, i, j + 1, h => by
    simp only [uOut, List.getElem?_cons_succ]
    rw [uOut_get f (i + 1) j (by omega)]
    simp only [Option.some.injEq, Sl.mk.injEq, true_and, and_true]
    omega
def u0 : Pl := newP [⟨1099511627776, 1099511627776, 0⟩, ⟨1, 1, 5⟩]
theorem u_first : strL u0.l u0.now 70000 = (uR 0, some (⟨1, 0, 1, false⟩, 1)) := by rfl
theorem far_u : untilP u0 70000 = (uS 65536, ⟨1, 0, 1, false⟩ :: uOut 65535 1) := by
  unfold untilP
  rw [show min (70000 : Int) FAR = 70000 by unfold FAR; omega]
  have e : (65536 : Nat) = 65535 + 1 := rfl
  rw [e, untilK, if_neg (by show ¬ (70000 : Int) ≤ 0; omega), u_first]
  simp only
  have c : cutS 70000 1 ⟨1, 0, 1, false⟩ = ⟨1, 0, 1, false⟩ := by unfold cutS; rw [if_neg (by simp only; omega)]
  have d : doneP (uR 0) ⟨1, 0, 1, false⟩ = uS 1 := u_done 0
  rw [c, d, u_run 70000 65535 1 (by omega) (by omega) (by omega)]
  rfl
end Pn

set_option autoImplicit false
namespace Pn
/-! one tick every so often -/
def vS (nx now : Int) : Pl := ⟨[⟨⟨1099511627776, 1, 0⟩, nx, [], 0⟩], now⟩
def vR (nx : Int) : List Ln := [⟨⟨1099511627776, 1, 0⟩, nx + 1099511627776, [⟨⟨1099511627776, 1, 0⟩, nx, 1⟩], 1⟩]
theorem v_rel (nx now T : Int) (h : T = nx) : rel T (vS nx now).l = vR nx := by
  subst h
  unfold vS vR rel
  simp only [List.map_cons, List.map_nil]
  rw [relE_none (show ¬ T < (⟨⟨1099511627776, 1, 0⟩, T, [], 0⟩ : Ln).nx by simp) rfl]
  simp [relN]
theorem v_id (nx now T : Int) (h : T < nx) : rel T (vS nx now).l = (vS nx now).l := by
  unfold vS rel
  simp only [List.map_cons, List.map_nil]
  rw [relE_no h]
theorem v_best (nx : Int) : best (vR nx) = ⟨nx + 1099511627776, 0, 0⟩ := by
  have e : best (vR nx) = bstep ⟨0, 0, -1⟩ 0 ⟨⟨1099511627776, 1, 0⟩, nx + 1099511627776, [⟨⟨1099511627776, 1, 0⟩, nx, 1⟩], 1⟩ := rfl
  rw [e]; simp [bstep]
theorem v_sl (nx : Int) : slOf (vR nx) ⟨nx + 1099511627776, 0, 0⟩ nx = ⟨0, nx, nx + 1, false⟩ := by
  have t : toOf (vR nx) ⟨nx + 1099511627776, 0, 0⟩ nx = nx + 1 := by unfold toOf lfAt vR; simp [toK, tstep]
  unfold slOf
  rw [t]
  simp only [Sl.mk.injEq, true_and, decide_eq_false_iff_not]; omega
theorem v_str (nx now T : Int) (h : now ≤ nx) (hT : nx < T) : strL (vS nx now).l (vS nx now).now T = (vR nx, some (⟨0, nx, nx + 1, false⟩, nx + 1099511627776)) := by
  have hn : (vS nx now).now = now := rfl
  unfold strL
  rw [hn]
  by_cases c : now = nx
  · rw [v_rel nx now now c, v_best]
    simp only [show ¬ ((0 : Int) < 0) by omega, if_false]
    rw [c, v_sl]
  · rw [v_id nx now now (by omega)]
    have b : best (vS nx now).l = ⟨0, 0, -1⟩ := rfl
    have m : minK (vS nx now).l T (vS nx now).l.length = nx := by
      have : minK (vS nx now).l T (vS nx now).l.length = min T nx := rfl
      omega
    rw [b, m, v_rel nx now nx rfl, v_best, v_sl]
    simp only [show ((-1 : Int) < 0) by omega, if_true]
    rw [if_neg (by omega)]
theorem v_done (nx : Int) : doneP (vR nx) ⟨0, nx, nx + 1, false⟩ = vS (nx + 1099511627776) (nx + 1) := by
  unfold doneP vR vS setL
  simp [doneL, popW, show nx + 1 - nx = 1 by omega]
def vOut : Nat → Int → List Sl
  | 0, _ => []
  | f + 1, nx => ⟨0, nx, nx + 1, false⟩ :: vOut f (nx + 1099511627776)
theorem v_run (T : Int) : ∀ (f : Nat) (nx now : Int), now ≤ nx → nx + f * 1099511627776 ≤ T → (untilK T f (vS nx now)).2 = vOut f nx ∧ ∃ now', (untilK T f (vS nx now)).1 = vS (nx + f * 1099511627776) now'
  | 0, nx, now, _, _ => ⟨rfl, now, by simp [untilK]⟩
  | f + 1, nx, now, h0, h1 => by
    have hn : (vS nx now).now = now := rfl
    rw [untilK, if_neg (by rw [hn]; omega), v_str nx now T h0 (by omega)]
    simp only
    have c : cutS T (nx + 1099511627776) ⟨0, nx, nx + 1, false⟩ = ⟨0, nx, nx + 1, false⟩ := by unfold cutS; rw [if_neg (by simp only; omega)]
    rw [c, v_done]
    obtain ⟨a, now', b⟩ := v_run T f (nx + 1099511627776) (nx + 1) (by omega) (by omega)
    rw [a, b]
    refine ⟨rfl, now', ?_⟩
    rw [show nx + 1099511627776 + (f : Int) * 1099511627776 = nx + ((f + 1 : Nat) : Int) * 1099511627776 by omega]
theorem vOut_len : ∀ (f : Nat) (i : Int), (vOut f i).length = f
  | 0, _ => rfl
  | f + 1, i => by simp [vOut, vOut_len f]
theorem vOut_one (f : Nat) (nx : Int) : (vOut (f + 1 + 1) nx)[1]? = some ⟨0, nx + 1099511627776, nx + 1099511627776 + 1, false⟩ := rfl
/-- Until far: as many as it may tell, the second at the second period's beginning -/
theorem far_w : (untilP (newP [⟨1099511627776, 1, 0⟩]) 1152921504606846981).2.length = 65536 ∧ (untilP (newP [⟨1099511627776, 1, 0⟩]) 1152921504606846981).2[1]? = some ⟨0, 1099511627776, 1099511627777, false⟩ := by
  have e : untilP (newP [⟨1099511627776, 1, 0⟩]) 1152921504606846981 = untilK 1152921504606846976 65536 (vS 0 0) := by
    unfold untilP
    rw [show min (1152921504606846981 : Int) FAR = 1152921504606846976 by unfold FAR; omega]; rfl
  rw [e, (v_run 1152921504606846976 65536 0 0 (by omega) (by omega)).1]
  exact ⟨vOut_len _ _, by have := vOut_one 65534 0; simpa using this⟩
/-! one that fills all its time -/
def sS (a : Int) : Pl := ⟨[⟨⟨1099511627775, 1099511627775, 0⟩, a, [], 0⟩], a⟩
def sR (a : Int) : List Ln := [⟨⟨1099511627775, 1099511627775, 0⟩, a + 1099511627775, [⟨⟨1099511627775, 1099511627775, 0⟩, a, 1⟩], 1099511627775⟩]
theorem s_str (a T : Int) : strL (sS a).l (sS a).now T = (sR a, some (⟨0, a, a + 1099511627775, false⟩, a + 1099511627775)) := by
  have hn : (sS a).now = a := rfl
  have r : rel a (sS a).l = sR a := by
    unfold sS sR rel
    simp only [List.map_cons, List.map_nil]
    rw [relE_none (show ¬ a < (⟨⟨1099511627775, 1099511627775, 0⟩, a, [], 0⟩ : Ln).nx by simp) rfl]
    simp [relN]
  have b : best (sR a) = ⟨a + 1099511627775, 0, 0⟩ := by
    have e : best (sR a) = bstep ⟨0, 0, -1⟩ 0 ⟨⟨1099511627775, 1099511627775, 0⟩, a + 1099511627775, [⟨⟨1099511627775, 1099511627775, 0⟩, a, 1⟩], 1099511627775⟩ := rfl
    rw [e]; simp [bstep]
  have t : toOf (sR a) ⟨a + 1099511627775, 0, 0⟩ a = a + 1099511627775 := by unfold toOf lfAt sR; simp [toK, tstep]
  unfold strL
  rw [hn, r, b]
  simp only [show ¬ ((0 : Int) < 0) by omega, if_false]
  unfold slOf
  rw [t]; simp
theorem s_done (a : Int) : doneP (sR a) ⟨0, a, a + 1099511627775, false⟩ = sS (a + 1099511627775) := by
  unfold doneP sR sS setL
  simp [doneL, popW, show a + 1099511627775 - a = 1099511627775 by omega]
theorem s_run (T : Int) : ∀ (f : Nat) (a : Int), a + f * 1099511627775 ≤ T → (untilK T f (sS a)).1 = sS (a + f * 1099511627775)
  | 0, a, _ => by simp [untilK]
  | f + 1, a, h1 => by
    have hn : (sS a).now = a := rfl
    rw [untilK, if_neg (by rw [hn]; omega), s_str a T]
    simp only
    have c : cutS T (a + 1099511627775) ⟨0, a, a + 1099511627775, false⟩ = ⟨0, a, a + 1099511627775, false⟩ := by unfold cutS; rw [if_neg (by simp only; omega)]
    rw [c, s_done, s_run T f (a + 1099511627775) (by omega)]
    rw [show a + 1099511627775 + (f : Int) * 1099511627775 = a + ((f + 1 : Nat) : Int) * 1099511627775 by omega]
/-- seventeen times Until the last ticks -/
def sK (k : Nat) : Pl := sS (k * 72057594037862400)
def sEnd : Pl := ⟨[⟨⟨1099511627775, 1099511627775, 0⟩, 1152921504605798400 + 1099511627775, [⟨⟨1099511627775, 1099511627775, 0⟩, 1152921504605798400, 1⟩], 1099511627775 - 1048571⟩], 1152921504606846971⟩
theorem s_step (k : Nat) (h : k < 16) : (untilP (sK k) 1152921504606846971).1 = sK (k + 1) := by
  unfold untilP sK
  rw [show min (1152921504606846971 : Int) FAR = 1152921504606846971 by unfold FAR; omega, s_run _ 65536 _ (by omega)]
  exact congrArg sS (by omega)
theorem s_last : (untilP (sK 16) 1152921504606846971).1 = sEnd := by
  unfold untilP sK
  rw [show min (1152921504606846971 : Int) FAR = 1152921504606846971 by unfold FAR; omega]
  have e : (65536 : Nat) = 65534 + 1 + 1 := rfl
  have a : ((16 : Nat) : Int) * 72057594037862400 = 1152921504605798400 := by omega
  rw [e, a, untilK, if_neg (by show ¬ (1152921504606846971 : Int) ≤ 1152921504605798400; omega), s_str]
  simp only
  rw [untilK, if_pos]
  · rfl
  · exact Int.le_refl _
theorem s_next : (nextP sEnd).2.2 = 3 := by rfl
end Pn
