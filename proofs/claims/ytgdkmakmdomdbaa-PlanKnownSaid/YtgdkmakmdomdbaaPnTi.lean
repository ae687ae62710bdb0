import Derived.Test.YtgdkmakmdomdbaaPnE
import Derived.Test.YtgdkmakmdomdbaaPnRu
import Derived.Laws.MakeOwn
set_option autoImplicit false
set_option linter.unusedVariables false
namespace Go.Proofs.Ytgdkmakmdomdbaa
open Go.RowKit Lk Pn
/-- stretches in their cells -/
structure At4 (w : World) (b o : Nat) (s : Sl) : Prop where
  c0 : w.cell? ⟨b, o, none⟩ = some (.int .i64 s.task)
  c1 : w.cell? ⟨b, o + 1, none⟩ = some (.int .i64 s.fr)
  c2 : w.cell? ⟨b, o + 2, none⟩ = some (.int .i64 s.to)
  c3 : w.cell? ⟨b, o + 3, none⟩ = some (.bool s.late)
structure SlA (w : World) (a : Option Addr) (n cap : Nat) (L : List Sl) : Prop where
  len : L.length = n
  le : n ≤ cap
  small : cap ≤ 9223372036854775807
  cells : n = 0 ∨ ∃ b, a = some ⟨b, 0, none⟩ ∧ b < w.heap.size ∧ ∀ (j : Nat) s, L[j]? = some s → At4 w b (j * 4) s
theorem SlA.keep {w w' : World} {a : Option Addr} {n cap : Nat} {L : List Sl} (h : SlA w a n cap L) (b : Below w.heap.size w w') : SlA w' a n cap L :=
  ⟨h.len, h.le, h.small, h.cells.imp id fun ⟨g, ha, hg, hc⟩ => ⟨g, ha, Nat.lt_of_lt_of_le hg b.size, fun j s hs => by
    obtain ⟨a, b1, c, d⟩ := hc j s hs
    constructor <;> rw [World.cell?_of_block (b.block g hg)] <;> assumption⟩⟩
theorem SlA.at {w : World} {a : Option Addr} {n cap : Nat} {L : List Sl} (h : SlA w a n cap L) {k : Nat} (hk : k < n) : ∃ b s, a = some ⟨b, 0, none⟩ ∧ b < w.heap.size ∧ L[k]? = some s ∧ At4 w b (k * 4) s := by
  rcases h.cells with h0 | ⟨b, ha, hb, hc⟩
  · omega
  · have hl : k < L.length := by rw [h.len]; exact hk
    exact ⟨b, L[k], ha, hb, List.getElem?_eq_getElem hl, hc k _ (List.getElem?_eq_getElem hl)⟩
theorem slv_get {l : List Sl} {j : Nat} {s : Sl} (h : l[j]? = some s) {q : Nat} {u : Value} (hu : (slc s).toList[q]? = some u) : (slv l)[j * 4 + q]? = some u := by
  induction l generalizing j with
  | nil => simp at h
  | cons a l ih =>
    have e : slv (a :: l) = (slc a).toList ++ slv l := by simp [slv]
    have hq : q < 4 := by have := (List.getElem?_eq_some_iff.1 hu).1; simpa [slc] using this
    rw [e]
    cases j with
    | zero =>
      simp only [List.getElem?_cons_zero, Option.some.injEq] at h
      subst h
      rw [List.getElem?_append_left (by simp [slc]; omega), ← hu]; simp
    | succ j =>
      rw [List.getElem?_cons_succ] at h
      rw [List.getElem?_append_right (by simp [slc]; omega), show (j + 1) * 4 + q - (slc a).toList.length = j * 4 + q by simp [slc]; omega]
      exact ih h
theorem sl_own {w : World} {B n : Nat} {v : Value} {L : List Sl} (h : w.ownsRow B 42 4 v n (slv L)) : ∃ a cap, v = .slice a n cap ∧ SlA w a n cap L := by
  have hl := h.1
  rw [slv_len] at hl
  rcases h.2 with ⟨rfl, h0⟩ | ⟨g, cap, cur, rfl, hB, hb, h1, h2, _, h3⟩
  · subst h0; exact ⟨none, 0, rfl, by omega, Nat.le_refl _, by omega, .inl rfl⟩
  · refine ⟨_, cap, rfl, by omega, h1, by unfold maxLen at h2; omega, .inr ⟨g, rfl, (Array.getElem?_eq_some_iff.1 hb).1, fun j t ht => ?_⟩⟩
    have hj := (List.getElem?_eq_some_iff.1 ht).1
    have get : ∀ q u, q < 4 → (slc t).toList[q]? = some u → w.cell? ⟨g, j * 4 + q, none⟩ = some u := fun q u hq hu => by
      rw [blk_cell hb]
      have := slv_get ht hu
      rw [← h3, List.getElem?_take] at this
      rw [if_pos (by omega)] at this
      rw [← this]; simp
    exact ⟨get 0 _ (by omega) rfl, get 1 _ (by omega) rfl, get 2 _ (by omega) rfl, get 3 _ (by omega) rfl⟩
/-- a row of numbers of one's own -/
structure TR (E : Nat) (w wr : World) (g : Nat) (f : Nat → Int) : Prop where
  b : Below w.heap.size w wr
  g0 : w.heap.size ≤ g
  cl : ∃ cur, wr.heap[g]? = some (.cells cur 3 (0, 0)) ∧ cur.size = E ∧ ∀ i, i < E → cur[i]? = some (.int .i64 (f i))
theorem TR.lt {E : Nat} {w wr : World} {g : Nat} {f : Nat → Int} (h : TR E w wr g f) : g < wr.heap.size := by
  obtain ⟨cur, e, _⟩ := h.cl
  exact (Array.getElem?_eq_some_iff.1 e).1
theorem TR.cell {E : Nat} {w wr : World} {g : Nat} {f : Nat → Int} (h : TR E w wr g f) {i : Nat} (hi : i < E) : wr.cell? ⟨g, i, none⟩ = some (.int .i64 (f i)) := by
  obtain ⟨cur, e, _, e2⟩ := h.cl
  rw [blk_cell e, e2 i hi]
theorem TR.fz {E : Nat} {w wr : World} {g : Nat} {f : Nat → Int} (h : TR E w wr g f) (i : Nat) : wr.frozen? ⟨g, i, none⟩ = false := by
  obtain ⟨cur, e, _⟩ := h.cl
  exact blk_fz e i
theorem TR.set {E : Nat} {w wr : World} {g : Nat} {f : Nat → Int} (h : TR E w wr g f) {i : Nat} (hi : i < E) (v : Int) : TR E w (wr.setCell ⟨g, i, none⟩ (.int .i64 v)) g (fun k => if k = i then v else f k) := by
  obtain ⟨cur, e, e1, e2⟩ := h.cl
  refine ⟨h.b.setCell h.g0 _, h.g0, _, blk_setCell _ _ _ _ e, by simp [e1], fun k hk => ?_⟩
  rw [Array.getElem?_setIfInBounds]
  by_cases hki : i = k
  · subst hki; rw [if_pos rfl, if_pos (by omega), if_pos rfl]
  · rw [if_neg hki, if_neg (fun e => hki e.symm)]; exact e2 k hk
theorem TR.draw {E : Nat} {w wr : World} {g : Nat} {f : Nat → Int} (h : TR E w wr g f) (n : Nat) : TR E w (wr.drewN n) g f :=
  ⟨h.b.trans ((below_drewN (Below.refl _ _) n).mono h.b.size), h.g0, h.cl⟩
theorem TR.eqv {E : Nat} {w wr : World} {g : Nat} {f f' : Nat → Int} (h : TR E w wr g f) (e : ∀ i, i < E → f i = f' i) : TR E w wr g f' := by
  obtain ⟨cur, e1, e2, e3⟩ := h.cl
  exact ⟨h.b, h.g0, cur, e1, e2, fun i hi => by rw [e3 i hi, e i hi]⟩
theorem Try.und55 : Try.prog.underlying 55 = some (.slice 3) := by kernel_rfl
theorem int_info : (Try.prog.info? 3).map (fun i => (i.zero.map (·.cells), i.size, i.bytes)) = some (some #[.int .i64 0], 1, 8) := by kernel_rfl
theorem TR.new (E : Nat) (w : World) : TR E w (w.alloc (.cells (madeCells #[.int .i64 0] (E * 1)) 3)) w.heap.size (fun _ => 0) := by
  refine ⟨(Below.refl _ w).alloc (Nat.le_refl _) _, Nat.le_refl _, _, Deep.blk_alloc_new w _, by simp [madeCells], fun i hi => ?_⟩
  unfold madeCells
  rw [Array.getElem?_map, Array.getElem?_range, if_pos (by omega)]
  simp only [Option.map_some, Array.size_singleton]
  rw [Nat.mod_one]; rfl
set_option maxRecDepth 100000 in
set_option maxHeartbeats 4000000 in
theorem ticks_walk (a : Option Addr) (n cap : Nat) (L : List Sl) (E : Nat) (E1 : 1 ≤ E) (E2 : E ≤ 1000000) (w : World) (sa : SlA w a n cap L) (hr : Rise 0 E L) :
    Calls Try.prog 21 #[.slice a n cap, .int .i64 E] w (fun e w' => ∃ g, e = .returned (.tuple #[.slice (some ⟨g, 0, none⟩) E E, .bool true]) ∧ TR E w w' g (fun k => runS L k)) := by
  obtain ⟨I, hi, hzz⟩ := Option.map_eq_some_iff.1 int_info
  simp only [Prod.mk.injEq] at hzz
  obtain ⟨z, hz, hzc⟩ := Option.map_eq_some_iff.1 hzz.1
  have hmk : ∀ w : World, (Instr.makeSlice 55 (.int .i64 (E : Int)) (.int .i64 (E : Int))).run Try.prog w = .ok (.slice (some ⟨w.heap.size, 0, none⟩) E E) (w.alloc (.cells (madeCells #[.int .i64 0] (E * 1)) 3)) := fun w => by
    have := run_make (P := Try.prog) w 55 3 I z Try.und55 hi hz .i64 .i64 E E (by omega) (Int.le_refl _) (by rw [hzz.2.2]; omega) (by omega)
    rw [hzc, hzz.2.1] at this
    simpa using this
  have h0 := TR.new E w
  generalize madeCells #[.int .i64 0] (E * 1) = mz at hmk h0
  have H0 := Lib.hid h0
  have SA := Lib.hid sa
  have HR := Lib.hid hr
  have n63 : n ≤ 9223372036854775807 := Nat.le_trans sa.le sa.small
  have nc := sa.le
  have c63 := sa.small
  clear h0 hzz hzc hz hi sa hr
  go_enter Try.func21, Try.ntmps21
  go_wp2_with fail
  clear hmk
  obtain ⟨G, hG⟩ : ∃ G, G = w.heap.size := ⟨_, rfl⟩
  rw [← hG]
  have h0 := H0.out
  rw [← hG] at h0
  replace H0 := Lib.hid h0
  clear h0 hG
  go_loopw [7] (fun i wr => ∃ k : Nat, i = .int .i64 k ∧ k ≤ E ∧ ∃ f, TR E w wr G f ∧ ∀ j, j < k → f j = -1) (fun i _ => E - (intOf i).toNat)
  case atStart => exact ⟨0, rfl, by omega, _, H0.out, fun j hj => by omega⟩
  case round =>
    obtain ⟨k, rfl, hk, f, R, hf⟩ := hrel
    have HRR := Lib.hid R
    have HF := Lib.hid hf
    have gl := R.lt
    clear R H0 hf
    by_cases hlt : k < E
    · have cj := HRR.out.cell hlt
      have fz := HRR.out.fz k
      go_wp2_with fail
      have NX := Lib.hid (HRR.out.set hlt (-1))
      go_roundw
      case rel => exact ⟨k + 1, rfl, by omega, _, NX.out, fun j hj => by by_cases e : j = k <;> simp only [e, if_true, if_false]; exact HF.out j (by omega)⟩
      case measure => simp only [intOf]; omega
    · have RB := Lib.hid (HRR.out.eqv (f' := fun k => runS (L.take 0) k) (fun i hi => HF.out i (by omega)))
      clear gl HRR HF
      go_wp2_with fail
      go_loopw [8, 9] (fun va vi wr => ∃ j : Nat, vi = .int .i64 j ∧ j ≤ n ∧ va = .int .i64 (lastTo 0 (L.take j)) ∧ TR E w wr G (fun k => runS (L.take j) k)) (fun _ i _ => n - (intOf i).toNat)
      case atStart => exact ⟨0, rfl, by omega, rfl, RB.out⟩
      case round =>
        obtain ⟨j, rfl, hj, rfl, R⟩ := hrel
        have HRR := Lib.hid R
        clear R RB
        by_cases hjn : j < n
        · obtain ⟨b, s, rfl, hb, hx, A⟩ := (SA.out.keep HRR.out.b).at hjn
          obtain ⟨r1, r2, r3⟩ := HR.out.at hx
          obtain ⟨st, sf, so, sl⟩ := s
          obtain ⟨LT, hLT⟩ : ∃ LT, LT = lastTo 0 (L.take j) := ⟨_, rfl⟩
          rw [← hLT] at r1 ⊢
          have r0 := HR.out.ge hx
          have HX := Lib.hid hx
          have c0 := A.c0
          have c1 := A.c1
          have c2 := A.c2
          simp only at r0 r1 r2 r3 c0 c1 c2
          have d1 : decide (sf < LT) = false := decide_eq_false (by omega)
          have d2 : decide (so ≤ sf) = false := decide_eq_false (by omega)
          have d3 : decide ((E : Int) < so) = false := decide_eq_false (by omega)
          clear A hx hLT
          go_wp2_with fail
          go_quiet (fail)
          go_wp2_with fail
          clear c0 c1 c2 d1 d2 d3
          go_loopw [10] (fun v wr2 => ∃ q : Nat, v = .int .i64 q ∧ sf ≤ q ∧ q ≤ so ∧ TR E w wr2 G (fun i => if sf ≤ i ∧ i < q then st else runS (L.take j) i)) (fun v _ => (so - intOf v).toNat)
          case atStart => exact ⟨sf.toNat, by rw [Int.toNat_of_nonneg (by omega)], by omega, by omega, (HRR.out.draw _).eqv fun i hi => by rw [if_neg (by omega)]⟩
          case round =>
            obtain ⟨q, rfl, q1, q2, R2⟩ := hrel
            have HR2 := Lib.hid R2
            clear R2
            obtain ⟨b', s', hb', hb2, hx2, A⟩ := (SA.out.keep HR2.out.b).at hjn
            obtain rfl : b = b' := by cases hb'; rfl
            obtain rfl : s' = ⟨st, sf, so, sl⟩ := by rw [HX.out] at hx2; exact (Option.some.inj hx2).symm
            have c0 := A.c0
            have c1 := A.c1
            have c2 := A.c2
            simp only at c0 c1 c2
            clear A hx2 hb'
            by_cases hq : (q : Int) < so
            · have gl := HR2.out.lt
              have cj := HR2.out.cell (i := q) (by omega)
              have fz := HR2.out.fz q
              go_wp2_with fail
              have NX := Lib.hid (HR2.out.set (i := q) (by omega) st)
              go_roundw
              case rel => exact ⟨q + 1, rfl, by omega, by omega, NX.out.eqv fun i hi => by
                  by_cases e : i = q
                  · subst e; rw [if_pos rfl, if_pos (by omega)]
                  · rw [if_neg e]
                    by_cases e2 : sf ≤ i ∧ i < q
                    · rw [if_pos e2, if_pos (by omega)]
                    · rw [if_neg e2, if_neg (by omega)]⟩
              case measure => simp only [intOf]; omega
            · go_wp2_with fail
              go_roundw
              case rel => exact ⟨j + 1, rfl, by omega, by rw [List.take_add_one, HX.out, Option.toList_some, lastTo_snoc], HR2.out.eqv fun i hi => by
                  rw [List.take_add_one, HX.out, Option.toList_some]
                  refine Eq.trans ?_ (runS_snoc _ _ _).symm
                  simp only
                  by_cases e2 : sf ≤ i ∧ i < q
                  · rw [if_pos e2, if_pos (by omega)]
                  · rw [if_neg e2, if_neg (by omega)]⟩
              case measure => simp only [intOf]; omega
        · go_wp2_with fail
          go_ret2
          exact ⟨G, rfl, by have := HRR.out; rwa [show j = L.length by rw [SA.out.len]; omega, List.take_length] at this⟩
end Go.Proofs.Ytgdkmakmdomdbaa
