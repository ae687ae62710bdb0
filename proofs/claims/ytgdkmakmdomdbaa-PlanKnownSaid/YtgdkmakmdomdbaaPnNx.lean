import Derived.Test.YtgdkmakmdomdbaaPnK
import Derived.Test.YtgdkmakmdomdbaaPnNe
set_option autoImplicit false
set_option linter.unusedVariables false
namespace Go.Proofs.Ytgdkmakmdomdbaa
open Go.RowKit Lk Pn
theorem line_info' : (Try.prog.info? 68).map (fun i => (i.zero.map (fun z => z.cells.size), i.size, i.bytes)) = some (some 6, 6, 64) := by kernel_rfl
section
variable {ops : Array Oper} {rest : List Oper} {o : Oper} {a : Act} {Q : Exit → Act → World → Prop} {w : World}
theorem wpList_copy_ln (hgd : o.guard = none) (s x : Operand) (ho : o.op = .call { callee := .builtin .append, args := #[s, x], argTypes := #[62, 62] })
    (i : TypeInfo) (z : Value) (hi : Try.prog.info? 68 = some i) (hz : i.zero = some z) (hsize : i.size = 6) (hby : i.bytes = 64) (hzs : z.cells.size = 6)
    (hs : a.eval s = .slice none 0 0) {S : Nat → Prop} {p lb cap : Nat} {vs : List Value} {st : Pl} (h : PAx cY w S p lb cap vs st) (hx : a.eval x = .slice (some ⟨lb, 0, none⟩) st.l.length cap) (h0 : 0 < st.l.length) (hn : st.l.length ≤ 4194304)
    (hk : ∀ g c' w', CP cY w' w.heap.size g c' vs vs st.l 0 → w.grownBy w' none → wpList Try.prog ops Q rest (a.put o.dst (.slice (some ⟨g, 0, none⟩) st.l.length c')) w') : wpList Try.prog ops Q (o :: rest) a w := by
  obtain ⟨cur, hc, hl⟩ := h.bl
  have hvl := h.vl
  have cells : ∀ j, j < st.l.length → ∃ v, LnC cur (j * 6) (st.l[j]?.getD zl) v ∧ ∃ (a : Option Addr) (n c : Nat), v = Value.slice a n c := fun j hj => by
    have hx := List.getElem?_eq_getElem hj
    have hv : vs[j]? = some (vs[j]'(by omega)) := List.getElem?_eq_getElem (by omega)
    obtain ⟨a, c, e, _⟩ := (h.wt j _ _ hx hv).form
    exact ⟨_, by rw [hx]; exact hl j _ _ hx hv, a, _, c, e⟩
  have hs6 : st.l.length * 6 ≤ cur.size := by
    obtain ⟨v, A, _⟩ := cells (st.l.length - 1) (by omega)
    have := (Array.getElem?_eq_some_iff.1 A.c5).1
    omega
  have hnl : (cur.toList.take (st.l.length * 6)).length = st.l.length * 6 := by simp; omega
  refine wpList_append_own w hgd s x 62 ho w.heap.size 68 i z 6 64 Try.und62 hi hz hsize hby hzs (by decide) (.slice none 0 0) 0 [] hs (World.ownsRow_nil _ _ _ _) ⟨lb, 0, none⟩ st.l.length cap (cur.toList.take (st.l.length * 6)) hx hnl ?_ ?_ (by simp only [maxLen]; omega) (by omega) (Nat.le_refl _) (fun v' w' h2 h3 _ => ?_)
  · intro j u hu
    rw [List.getElem?_take] at hu
    split at hu
    · rw [Addr.add_lit]
      simp only [World.cell?, hc, Nat.zero_add]
      simpa using hu
    · cases hu
  · intro u hu
    obtain ⟨j, hj⟩ := List.mem_iff_getElem?.1 hu
    rw [List.getElem?_take] at hj
    split at hj
    · rename_i hlt
      have hj : cur[j]? = some u := by simpa using hj
      obtain ⟨v, A, a, n, c, rfl⟩ := cells (j / 6) (by omega)
      have hq : j = j / 6 * 6 + j % 6 := by omega
      have h6 : j % 6 < 6 := by omega
      generalize j / 6 = d at *
      generalize j % 6 = q at *
      subst hq
      match q, h6 with
      | 0, _ => rw [show d * 6 + 0 = d * 6 from rfl, A.c0] at hj; cases hj; rfl
      | 1, _ => rw [A.c1] at hj; cases hj; rfl
      | 2, _ => rw [A.c2] at hj; cases hj; rfl
      | 3, _ => rw [A.c3] at hj; cases hj; rfl
      | 4, _ => rw [A.c4] at hj; cases hj; rfl
      | 5, _ => rw [A.c5] at hj; cases hj; rfl
    · cases hj
  · rw [Nat.zero_add, List.nil_append] at h2
    rcases h2.2 with ⟨_, e⟩ | ⟨g, cap', cur', rfl, hB, hg, h4, h5, h6, h7⟩
    · omega
    · have get : ∀ j, j < st.l.length * 6 → cur'[j]? = cur[j]? := fun j hj => by
        have := congrArg (fun l : List Value => l[j]?) h7
        simp only [List.getElem?_take, if_pos hj] at this
        simpa using this
      refine hk g cap' w' ⟨h4, by unfold maxLen at h5; omega, ⟨cur', hg, fun i x v hx hv => ?_⟩, hvl, fun i x v hi => by omega, hB, fun i v g hi => by omega, fun i j v v' g hi => by omega, fun i _ => rfl⟩ ⟨h3.os, h3.tape, h3.output, h3.size, fun k hk _ => h3.block k hk (by simp [Value.ownBlock])⟩
      have hil := (List.getElem?_eq_some_iff.1 hx).1
      obtain ⟨a, b, c, d, e, f⟩ := hl i x v hx hv
      exact ⟨(get _ (by omega)).trans a, (get _ (by omega)).trans b, (get _ (by omega)).trans c, (get _ (by omega)).trans d, (get _ (by omega)).trans e, (get _ (by omega)).trans f⟩
end
theorem next_no {l l0 lq : List Ln} {x0 : Ln} {now : Int} {o : Option (Sl × Int)} (hl : l = x0 :: l0) (ho : (lq, o) = strL l now 1152921504606846976) (h : o = none ∨ ∃ s due, o = some (s, due) ∧ 1152921504606846976 < s.to) : nextP ⟨l, now⟩ = (⟨l, now⟩, ⟨0, 0, 0, false⟩, 3) := by
  unfold nextP
  subst hl
  simp only [FAR]
  rw [← ho]
  rcases h with rfl | ⟨s, due, rfl, h⟩
  · rfl
  · simp only [h, if_true]
theorem next_yes {l l0 lq : List Ln} {x0 : Ln} {now due : Int} {s : Sl} (hl : l = x0 :: l0) (ho : (lq, some (s, due)) = strL l now 1152921504606846976) (h : ¬ 1152921504606846976 < s.to) : nextP ⟨l, now⟩ = (doneP lq s, s, 0) := by
  unfold nextP
  subst hl
  simp only [FAR]
  rw [← ho]
  simp only [h, if_false]
theorem fail_end {w w4 w8 : World} {S : Nat → Prop} {p lb og cap oc n1 : Nat} {us : List Value} {l : List Ln} {now : Int} (hS : ∀ k, S k → k < w.heap.size) (h : LA cY w4 (w.heap.size + 1) og oc us l) (hp : w4.heap[p]? = some (.cells #[.slice (some ⟨lb, 0, none⟩) n1 cap, .int .i64 now] cY.tp (0, 0))) (f : Fr S w w4) (sp : S p) {ob : Obj}
    (on : Only w.heap.size ((w4.setCell ⟨p, 0, none⟩ (.slice (some ⟨og, 0, none⟩) l.length oc)).alloc ob) w8) :
    PAx cY w8 (fun k => k = p ∨ (w.heap.size + 1 ≤ k ∧ k < w8.heap.size)) p og oc us ⟨l, now⟩ ∧ (∀ k, (k = p ∨ (w.heap.size + 1 ≤ k ∧ k < w8.heap.size)) → S k ∨ w.heap.size ≤ k) ∧ Fr S w w8 := by
  have hpl := hS p sp
  have z4 := f.size
  have z8 := on.size
  rw [al_size, size_setCell] at z8
  have oth : ∀ i, i ≠ p → i ≠ w.heap.size → i < w4.heap.size → w8.heap[i]? = w4.heap[i]? := fun i h1 h2 h3 => by
    rw [on.block i h2, Below.heap_alloc _ _ _ (by rw [size_setCell]; exact h3), Deep.blk_setCell_other _ _ _ _ h1]
  have pp : w8.heap[p]? = some (.cells #[.slice (some ⟨og, 0, none⟩) l.length oc, .int .i64 now] cY.tp (0, 0)) := by
    rw [on.block p (by omega), Below.heap_alloc _ _ _ (by rw [size_setCell]; omega), blk_setCell _ _ _ _ hp]; rfl
  refine ⟨(h.keep (w' := w8) fun k h1 h2 => oth k (by omega) (by omega) h2).plan pp (by omega) (.inl rfl) (fun k h1 h2 => .inr ⟨h1, h2⟩) (fun k hk => hk.elim (fun e => by omega) (·.2)), fun k hk => hk.elim (fun e => .inl (e ▸ sp)) (fun e => .inr (by omega)), ?_⟩
  refine ⟨on.os.trans f.os, on.tape.trans f.tape, on.output.trans f.output, by omega, fun k hk hn => ?_⟩
  rw [oth k (fun e => hn (e ▸ sp)) (by omega) (by omega)]
  exact f.block k hk hn
structure CR (S : Nat → Prop) (w wr : World) (og oc : Nat) (vs us : List Value) (l : List Ln) (k : Nat) : Prop where
  cp : CP cY wr (w.heap.size + 1) og oc vs us l k
  b : Below (w.heap.size + 1) (w.alloc (.cells (slc ⟨0, 0, 0, false⟩) 42)) wr
/-- what Next hands back -/
def NextP (S : Nat → Prop) (p : Nat) (st : Pl) (w : World) (e : Ending) (w' : World) : Prop :=
  e = .returned (.tuple #[.agg (slc (nextP st).2.1), .int .i64 (nextP st).2.2]) ∧ (∃ lb cap vs S', PAx cY w' S' p lb cap vs (nextP st).1 ∧ (∀ k, S' k → S k ∨ w.heap.size ≤ k)) ∧ Fr S w w'
set_option maxRecDepth 100000 in
set_option maxHeartbeats 4000000 in
theorem next_walk (M : Nat) (hM : M ≤ 4194304) (hM1 : 1 ≤ M) (p lb cap : Nat) (vs : List Value) (S : Nat → Prop) (st : Pl) (w : World) (h : PAx cY w S p lb cap vs st) (inv : Inv M st) (hlen : st.l.length ≤ 4194304) :
    Calls Try.prog 17 #[.pointer (some ⟨p, 0, none⟩)] w (NextP S p st w) := by
  obtain ⟨I, Z, hi, hz, hsz, hby, hzs⟩ := info5 run_info
  obtain ⟨I6, Z6, hi6, hz6, hsz6, hby6, hzs6⟩ := info5 line_info'
  obtain ⟨l, now⟩ := st
  have p0 := h.p0
  have pl := h.plt
  have n0 := inv.n0
  have n1 := inv.n1
  simp only at p0 n0 n1 hlen
  have SL := Lib.hid h.inS
  have H := Lib.hid h
  have IV := Lib.hid inv
  have HLEN := Lib.hid hlen
  clear h inv
  have bA : Below w.heap.size w (w.alloc (.cells (slc ⟨0, 0, 0, false⟩) 42)) := (Below.refl _ _).alloc (Nat.le_refl _) _
  have PA := Lib.hid (H.out.below bA)
  have ZB := Lib.hid (Deep.blk_alloc_new w (.cells (slc ⟨0, 0, 0, false⟩) 42))
  have BA := Lib.hid bA
  clear bA
  cases l with
  | nil =>
    have p0 : w.cell? ⟨p, 0, none⟩ = some (.slice (some ⟨lb, 0, none⟩) 0 cap) := p0
    go_enter Try.func17, Try.ntmps17
    go_wp2_with (refine wpList_store_at rfl (ty := 42) (x := .tmp 2) (y := .tmp 18) rfl (g := w.heap.size) (j := 0) (cells := slc ⟨0, 0, 0, false⟩) rfl rfl ZB.out (by kernel_rfl) (Nat.le_refl _) (slc_one _) ?_; intro w8 hz8 on8)
    rw [slc_put] at hz8
    have P8 := Lib.hid (PA.out.keep (S' := S) (fun i hi => on8.block i (by have := SL.out i hi; omega)) (fun _ h => h) (fun i hi => by rw [on8.size]; exact PA.out.inS i hi))
    have F8 := Lib.hid ((Fr.of_below (S := S) BA.out).after (only_fr on8) (Nat.le_refl _))
    have d0 := blk_cell hz8 0
    have d1 := blk_cell hz8 1
    have d2 := blk_cell hz8 2
    have d3 := blk_cell hz8 3
    simp only [slc] at d0 d1 d2 d3
    refine bodyPost_ret (v := .tuple #[.agg (slc ⟨0, 0, 0, false⟩), .int .i64 240]) (by simp [results, Try.results17, go_sem, d0, d1, d2, d3, slc]) rfl ⟨rfl, ⟨_, _, _, S, P8.out, fun k hk => .inl hk⟩, F8.out⟩
  | cons x0 l0 =>
    obtain ⟨l, hl⟩ : ∃ l, l = x0 :: l0 := ⟨_, rfl⟩
    rw [← hl] at p0 HLEN PA H IV ⊢
    obtain ⟨n, hn⟩ : ∃ n, n = l.length := ⟨_, rfl⟩
    rw [← hn] at p0
    have HN := Lib.hid hn
    have hnp : 0 < n := by rw [hn, hl]; simp
    have hzb : ((n : Int) == 0) = false := by rw [beq_eq_false_iff_ne]; omega
    have hn4 : n ≤ 4194304 := by rw [hn]; exact HLEN.out
    have HL := Lib.hid hl
    clear hl hn hlen
    go_enter Try.func17, Try.ntmps17
    go_wp2_with (refine wpList_copy_ln rfl (.const (.slice none 0 0)) (.tmp 22) rfl I6 Z6 hi6 hz6 hsz6 hby6 hzs6 rfl PA.out (by rw [← HN.out]; rfl) (by rw [← HN.out]; exact hnp) HLEN.out ?_; intro og oc w2 cp gr)
    rw [← HN.out]
    have B2 := Lib.hid (show Below (w.heap.size + 1) (w.alloc (.cells (slc ⟨0, 0, 0, false⟩) 42)) w2 from ⟨gr.os, gr.tape, gr.output, gr.size, fun i hi => gr.block i (by rw [al_size]; exact hi) (by simp)⟩)
    have CP2 := Lib.hid (show CP cY w2 (w.heap.size + 1) og oc vs vs l 0 by rw [al_size] at cp; exact cp)
    clear cp gr p0
    go_loopw [26] (fun i wr => ∃ k us, k ≤ n ∧ i = .int .i64 k ∧ CR S w wr og oc vs us l k) (fun i _ => n - (intOf i).toNat)
    case atStart => exact ⟨0, vs, by omega, rfl, CP2.out, B2.out⟩
    case round =>
      obtain ⟨k, us, hk, rfl, R⟩ := hrel
      have HR := Lib.hid R
      have P := Lib.hid (PA.out.keep (w' := wr) (S' := S) (fun i hi => HR.out.b.block i (by have := SL.out i hi; omega)) (fun _ h => h) (fun i hi => Nat.lt_of_lt_of_le (PA.out.inS i hi) HR.out.b.size))
      have ZW := Lib.hid ((HR.out.b.block w.heap.size (by omega)).trans ZB.out)
      clear R CP2 B2
      by_cases hlt : k < n
      · have hk64 : (k : Int) < (n : Int) := by omega
        obtain ⟨x, hx⟩ : ∃ x, l[k]? = some x := ⟨_, List.getElem?_eq_getElem (by rw [← HN.out]; exact hlt)⟩
        obtain ⟨v, hv, _, W⟩ := P.out.ln hx
        have hu := (HR.out.cp.old k (Nat.le_refl _)).trans hv
        obtain ⟨cur, hc, hl⟩ := HR.out.cp.bl
        have c4 := blk_cell hc (k * 6 + 4)
        rw [(hl k x v hx hu).c4] at c4
        have f4 := blk_fz hc (k * 6 + 4)
        have hcc := HR.out.cp.cap1
        have hc6 := HR.out.cp.cap2
        rw [← HN.out] at hcc
        have wl := Nat.le_trans (wl_le (IV.out.ln x (List.mem_of_getElem? hx))) hM
        obtain ⟨a, c, rfl, q1, q2, _⟩ := W.form
        have HW := Lib.hid W
        have HX := Lib.hid hx
        have HC := Lib.hid hc
        clear hx hv W hu hl hc
        go_wp2_with (refine wpList_copy_wt cY (.inl rfl) rfl (.const (.slice none 0 0)) (.tmp 35) 66 rfl I Z 40 Try.und66 hi hz hsz hby (by decide) hzs rfl rfl HW.out wl ?_; intro v3 w3 hw3 gr3 hg3; obtain ⟨a3, m3, rfl, _⟩ := hw3.form; have NX := Lib.hid (HR.out.cp.step HX.out (by have := HR.out.b.size; rw [al_size] at this; exact this) hw3 gr3 hg3); have e3 := (gr3.block og HR.out.cp.lt (by simp)).trans HC.out; have c4 := (World.cell?_of_block (a := ⟨og, k * 6 + 4, none⟩) (gr3.block og HR.out.cp.lt (by simp))).trans c4; have f4 := blk_fz e3 (k * 6 + 4); have GR := Lib.hid gr3; clear hw3 gr3 hg3 e3)
        go_roundw
        case rel =>
          refine ⟨k + 1, _, by omega, by go_num, NX.out, HR.out.b.trans ⟨GR.out.os, GR.out.tape, GR.out.output, by rw [size_setCell]; exact GR.out.size, fun i hi => ?_⟩⟩
          have := HR.out.cp.lb0
          have := HR.out.b.size
          rw [al_size] at this
          exact (Deep.blk_setCell_other _ _ _ _ (by simp only; omega)).trans (GR.out.block i (by omega) (by simp))
        case measure => simp [intOf]; omega
      · obtain rfl : k = n := by omega
        have CPD := Lib.hid (show LA cY wr (w.heap.size + 1) og oc us l from by have := HR.out.cp; rw [HN.out] at this; exact this.done)
        go_wp2_with fail
        refine (str_walk M hM hM1 p lb cap vs S ⟨l, now⟩ 1152921504606846976 _ P.out IV.out (by omega) (by omega) (by simp only; omega)).mono ?_
        rintro e w4 ⟨rfl, ⟨vs1, q⟩, g⟩
        simp only at q ⊢
        obtain ⟨⟨lq, o⟩, ho⟩ : ∃ x, x = strL l now 1152921504606846976 := ⟨_, rfl⟩
        rw [← ho] at q ⊢
        simp only at q ⊢
        have HO := Lib.hid ho
        have G := Lib.hid g
        have Q1 := Lib.hid q
        have zr := HR.out.b.size
        rw [al_size] at zr
        have F1 := Lib.hid (show Fr S w w4 from (Fr.of_below (BA.out.trans (HR.out.b.mono (Nat.le_succ _)))).trans' g)
        have LAQ := Lib.hid (CPD.out.keep (w' := w4) fun i h1 h2 => g.block i h2 (fun e => by have := SL.out i e; omega))
        have Z4 := Lib.hid ((g.block w.heap.size (by omega) (fun e => by have := SL.out _ e; omega)).trans ZW.out)
        have ZQ : Hid (∀ ob u, ((w4.setCell ⟨p, 0, none⟩ u).alloc ob).heap[w.heap.size]? = some (.cells (slc ⟨0, 0, 0, false⟩) 42 (0, 0))) := Lib.hid fun ob u => by
          have z4 := g.size
          rw [Below.heap_alloc _ _ _ (by rw [size_setCell]; omega), Deep.blk_setCell_other _ _ _ _ (by simp only; omega)]
          exact Z4.out
        have p0 := q.p0
        have pf := q.fp 0
        have pl := q.plt
        clear q g ho P ZW CPD zr
        cases o with
        | none =>
          simp only [strV, slc]
          go_wp2_with (refine wpList_store_at rfl (ty := 42) (x := .tmp 2) (y := .tmp 57) rfl (g := w.heap.size) (j := 0) (cells := slc ⟨0, 0, 0, false⟩) rfl rfl (ZQ.out _ _) (by kernel_rfl) (Nat.le_refl _) (slc_one _) ?_; intro w8 hz8 on8)
          rw [slc_put] at hz8
          have d0 := blk_cell hz8 0
          have d1 := blk_cell hz8 1
          have d2 := blk_cell hz8 2
          have d3 := blk_cell hz8 3
          simp only [slc] at d0 d1 d2 d3
          rw [HN.out] at on8
          have ON := Lib.hid on8
          clear on8 hz8 p0 pf
          go_wp2_with fail
          refine bodyPost_ret (v := .tuple #[.agg (slc ⟨0, 0, 0, false⟩), .int .i64 3]) (by simp [results, Try.results17, go_sem, d0, d1, d2, d3, slc]) rfl ?_
          have NE := next_no HL.out HO.out (.inl rfl)
          have E1 := fail_end (SL.out) LAQ.out Q1.out.pl F1.out H.out.sp (ob := .cells #[.int .i64 0, .int .i64 0, .int .i64 0, .bool false] 42) ON.out
          exact ⟨by rw [NE], ⟨og, oc, _, _, by rw [NE]; exact E1.1, E1.2.1⟩, E1.2.2⟩
        | some sd =>
          obtain ⟨⟨stk, fr, tz, lt⟩, due⟩ := sd
          obtain ⟨kk, x, r, ws, ok⟩ := str_some IV.out.ln hM1 (by simp only; omega) HO.out.symm
          obtain rfl : stk = (kk : Int) := ok.tk
          simp only [strV, slc]
          by_cases hc : 1152921504606846976 < tz
          · have HCC := Lib.hid hc
            go_wp2_with (refine wpList_store_at rfl (ty := 42) (x := .tmp 2) (y := .tmp 57) rfl (g := w.heap.size) (j := 0) (cells := slc ⟨0, 0, 0, false⟩) rfl rfl (ZQ.out _ _) (by kernel_rfl) (Nat.le_refl _) (slc_one _) ?_; intro w8 hz8 on8)
            rw [slc_put] at hz8
            have d0 := blk_cell hz8 0
            have d1 := blk_cell hz8 1
            have d2 := blk_cell hz8 2
            have d3 := blk_cell hz8 3
            simp only [slc] at d0 d1 d2 d3
            rw [HN.out] at on8
            have ON := Lib.hid on8
            clear on8 hz8 p0 pf
            go_wp2_with fail
            refine bodyPost_ret (v := .tuple #[.agg (slc ⟨0, 0, 0, false⟩), .int .i64 3]) (by simp [results, Try.results17, go_sem, d0, d1, d2, d3, slc]) rfl ?_
            have NE := next_no HL.out HO.out (.inr ⟨_, _, rfl, HCC.out⟩)
            have E1 := fail_end (SL.out) LAQ.out Q1.out.pl F1.out H.out.sp (ob := .cells #[.int .i64 kk, .int .i64 fr, .int .i64 tz, .bool lt] 42) ON.out
            exact ⟨by rw [NE], ⟨og, oc, _, _, by rw [NE]; exact E1.1, E1.2.1⟩, E1.2.2⟩
          · have HCC := Lib.hid hc
            have bA : Below w4.heap.size w4 (w4.alloc (.cells #[.int .i64 kk, .int .i64 fr, .int .i64 tz, .bool lt] 42)) := (Below.refl _ _).alloc (Nat.le_refl _) _
            have PQ := Q1.out.below bA
            have xl := ok.ln x (List.mem_of_getElem? ok.hx)
            have o1 := ok.fr0
            have o2 := ok.fr1
            have o3 := ok.to0
            have o4 := ok.to1
            have x1 := xl.lf1
            simp only at o1 o2 o3 o4
            have E := done_walk p lb cap vs1 _ lq now kk x fr tz lt _ PQ ok.hx (by omega) (by omega) (by omega) xl.lf0 xl.lf1 (by rw [ok.hw]; simp) (fun r hr => (xl.rn r hr).mono (by have := xl.nx1; simp only at this; omega)) (Nat.le_trans (wl_le xl) hM)
            have E1 := Lib.hid E
            have PZ := Lib.hid (blk_lt (Deep.blk_alloc_new w4 (.cells #[.int .i64 kk, .int .i64 fr, .int .i64 tz, .bool lt] 42)))
            have FA := Lib.hid (F1.out.then bA)
            have ZA := Lib.hid ((bA.block w.heap.size (blk_lt Z4.out)).trans Z4.out)
            have zz := blk_lt Z4.out
            clear bA PQ xl o1 o2 o3 o4 x1 E ok p0 pf
            go_wp2_with fail
            refine E1.out.mono ?_
            rintro e w5 ⟨rfl, ⟨vs5, q5⟩, g5⟩
            have nS : ∀ b, b = w.heap.size ∨ b = w4.heap.size → ¬ Sx S wr w4 b := fun b hb e => by
              have := Q1.out.inS _ e
              have z2 := HR.out.b.size
              rw [al_size] at z2
              rcases hb with rfl | rfl
              · exact e.elim (fun e => by have := SL.out _ e; omega) fun e => by omega
              · omega
            have hs := (g5.block w4.heap.size PZ.out (nS _ (.inr rfl))).trans (Deep.blk_alloc_new w4 _)
            have d0 := blk_cell hs 0
            have d1 := blk_cell hs 1
            have d2 := blk_cell hs 2
            have d3 := blk_cell hs 3
            have Z5 := Lib.hid ((g5.block w.heap.size (by rw [al_size]; omega) (nS _ (.inl rfl))).trans ZA.out)
            have G5 := Lib.hid g5
            have Q5 := Lib.hid q5
            have N5 := Lib.hid nS
            clear hs g5 q5 E1 nS
            go_wp2_with (refine wpList_store_at rfl (ty := 42) (x := .tmp 2) (y := .tmp 61) rfl (g := w.heap.size) (j := 0) (cells := slc ⟨kk, fr, tz, lt⟩) rfl rfl Z5.out (by kernel_rfl) (Nat.le_refl _) (slc_one _) ?_; intro w8 hz8 on8)
            rw [slc_put] at hz8
            have d0 := blk_cell hz8 0
            have d1 := blk_cell hz8 1
            have d2 := blk_cell hz8 2
            have d3 := blk_cell hz8 3
            simp only [slc] at d0 d1 d2 d3
            have ON := Lib.hid on8
            clear on8 hz8
            go_wp2_with fail
            refine bodyPost_ret (v := .tuple #[.agg (slc ⟨kk, fr, tz, lt⟩), .int .i64 0]) (by simp [results, Try.results17, go_sem, d0, d1, d2, d3, slc]) rfl ?_
            have NE := next_yes HL.out HO.out (by have := HCC.out; simp only; omega)
            have nZ : ∀ i, Sx (Sx S wr w4) (w4.alloc (.cells #[.int .i64 kk, .int .i64 fr, .int .i64 tz, .bool lt] 42)) w5 i → i ≠ w.heap.size := fun i hi e => hi.elim (N5.out i (.inl e)) fun e' => by
              have := e'.1
              rw [al_size] at this; omega
            have z2 := HR.out.b.size
            rw [al_size] at z2
            have z3 := G.out.size
            refine ⟨by rw [NE], ⟨lb, cap, vs5, _, by rw [NE]; exact Q5.out.keep (fun i hi => ON.out.block i (nZ i hi)) (fun _ h => h) (fun i hi => by rw [ON.out.size]; exact Q5.out.inS i hi), fun i hi => ?_⟩, ?_⟩
            · rcases hi with (hi | hi) | hi
              · exact .inl hi
              · exact .inr (by omega)
              · have := hi.1
                rw [al_size] at this
                exact .inr (by omega)
            · refine Fr.after ((FA.out.weaken (T := Sn S w) fun _ _ h => .inl h).trans' (G5.out.weaken (T := Sn S w) fun i _ hi => hi.elim .inl (fun e => .inr (by omega)))).old (only_fr ON.out) (Nat.le_refl _)
end Go.Proofs.Ytgdkmakmdomdbaa
