import Derived.Test.YtgdkmakmdomdbaaPnH
import Derived.Test.YtgdkmakmdomdbaaPnR
import Derived.Test.YtgdkmakmdomdbaaPnI
import Derived.Deep.DeepCutAuto
set_option autoImplicit false
set_option linter.unusedVariables false
namespace Go.Proofs.Ytgdkmakmdomdbaa
open Go.RowKit Lk Pn
def slc (s : Sl) : Array Value := #[.int .i64 s.task, .int .i64 s.fr, .int .i64 s.to, .bool s.late]
def strV : Option (Sl × Int) → Value
  | none => .tuple #[.agg (slc ⟨0, 0, 0, false⟩), .int .i64 0, .bool false]
  | some (s, d) => .tuple #[.agg (slc s), .int .i64 d, .bool true]
theorem okl_of {K : Nat} {now : Int} {x : Ln} (h : InL K now x) (hK : K ≤ 4194304) (n1 : now ≤ 1152921504606846976) : OkL x :=
  ⟨h.ev1, h.ev2, h.lg1, h.lg2, h.nx0, by have := h.nx1; omega, h.lf0, h.lf1, Nat.le_trans (wl_le h) hK, fun r hr => let q := h.rn r hr; ⟨q.ev1, q.ev2, q.lg1, q.lg2, q.fi0, q.ct1, q.le⟩⟩
theorem blk_cell {w : World} {g : Nat} {c : Array Value} {t : TypeId} (h : w.heap[g]? = some (.cells c t (0, 0))) (i : Nat) : w.cell? ⟨g, i, none⟩ = c[i]? := by simp [World.cell?, h]
theorem blk_fz {w : World} {g : Nat} {c : Array Value} {t : TypeId} (h : w.heap[g]? = some (.cells c t (0, 0))) (i : Nat) : w.frozen? ⟨g, i, none⟩ = false := by simp [World.frozen?, h]
theorem blk_lt {w : World} {g : Nat} {o : Obj} (h : w.heap[g]? = some o) : g < w.heap.size := (Array.getElem?_eq_some_iff.1 h).1
/-- while the end of a stretch is looked for -/
structure TI (S : Nat → Prop) (p lb cap : Nat) (vs : List Value) (st : Pl) (w0 : World) (jb tb : Nat) (j : Job) (tz : Int) (k : Nat) (x : World) : Prop where
  pa : PAx cY x S p lb cap vs st
  hj : x.heap[jb]? = some (.cells (jbc j) 94 (0, 0))
  ht : x.heap[tb]? = some (.cells #[.int .i64 (toK st.l j tz k)] 2 (0, 0))
  fr : Fr (· = tb) w0 x
/-- while the first release is looked for -/
structure MI (S : Nat → Prop) (p lb cap : Nat) (vs : List Value) (st : Pl) (w0 : World) (fb : Nat) (lim : Int) (k : Nat) (x : World) : Prop where
  pa : PAx cY x S p lb cap vs st
  hf : x.heap[fb]? = some (.cells #[.int .i64 (minK st.l lim k)] 2 (0, 0))
  fr : Fr (· = fb) w0 x
theorem cf44 : ∀ (args : Array Value) (w : World), (callFunc 44 args).run Try.prog w = .ok (.enter 44 args) w := fun _ _ => by kernel_rfl
theorem cf45 : ∀ (args : Array Value) (w : World), (callFunc 45 args).run Try.prog w = .ok (.enter 45 args) w := fun _ _ => by kernel_rfl
theorem to_each {S : Nat → Prop} {p lb cap : Nat} {vs : List Value} {st : Pl} {w0 : World} {jb tb : Nat} {j : Job} {tz : Int} (hok : ∀ x ∈ st.l, OkL x) (hS1 : ¬ S jb) (hS2 : ¬ S tb) (hne : tb ≠ jb) (h : PAx cY w0 S p lb cap vs st)
    (hj : w0.heap[jb]? = some (.cells (jbc j) 94 (0, 0))) (ht : w0.heap[tb]? = some (.cells #[.int .i64 tz] 2 (0, 0))) :
    Calls Try.prog 43 #[.pointer (some ⟨p, 0, none⟩), .func (.func 45) #[] #[.pointer (some ⟨jb, 0, none⟩), .pointer (some ⟨tb, 0, none⟩)]] w0 (fun e w' => e = .returned (.tuple #[]) ∧ TI S p lb cap vs st w0 jb tb j tz st.l.length w') :=
  each_walk 45 #[.pointer (some ⟨jb, 0, none⟩), .pointer (some ⟨tb, 0, none⟩)] p lb st.l.length cap (TI S p lb cap vs st w0 jb tb j tz) w0 h.cap1 h.cap2 cf45 (fun k x h => h.pa.p0) ⟨h, hj, ht, Fr.refl _ _⟩ (fun k x hk hi => by
    have hx : st.l[k]? = some st.l[k] := List.getElem?_eq_getElem hk
    obtain ⟨v, hv, A, W⟩ := hi.pa.ln hx
    refine (f45_walk k lb jb tb _ v j _ x A W (hok _ (List.getElem_mem hk)) hi.hj hi.ht (fun e => hS2 (e ▸ hi.pa.slb)) hne).mono ?_
    rintro e x' ⟨rfl, ht', fr⟩
    refine ⟨rfl, hi.pa.keep (fun i hi' => fr.block i (hi.pa.inS i hi') (fun e => hS2 (e ▸ hi'))) (fun _ h => h) (fun i hi' => Nat.lt_of_lt_of_le (hi.pa.inS i hi') fr.size), (fr.block jb (blk_lt hi.hj) hne.symm).trans hi.hj, ?_, hi.fr.trans' fr⟩
    rw [ht']
    simp only [toK, hx])
theorem min_each {S : Nat → Prop} {p lb cap : Nat} {vs : List Value} {st : Pl} {w0 : World} {fb : Nat} {lim : Int} (hS : ¬ S fb) (h : PAx cY w0 S p lb cap vs st) (hf : w0.heap[fb]? = some (.cells #[.int .i64 lim] 2 (0, 0))) :
    Calls Try.prog 43 #[.pointer (some ⟨p, 0, none⟩), .func (.func 44) #[] #[.pointer (some ⟨fb, 0, none⟩)]] w0 (fun e w' => e = .returned (.tuple #[]) ∧ MI S p lb cap vs st w0 fb lim st.l.length w') :=
  each_walk 44 #[.pointer (some ⟨fb, 0, none⟩)] p lb st.l.length cap (MI S p lb cap vs st w0 fb lim) w0 h.cap1 h.cap2 cf44 (fun k x h => h.pa.p0) ⟨h, hf, Fr.refl _ _⟩ (fun k x hk hi => by
    have hx : st.l[k]? = some st.l[k] := List.getElem?_eq_getElem hk
    obtain ⟨v, hv, A, W⟩ := hi.pa.ln hx
    refine (f44_walk k lb fb _ v _ x A hi.hf (fun e => hS (e ▸ hi.pa.slb))).mono ?_
    rintro e x' ⟨rfl, hf', fr⟩
    refine ⟨rfl, hi.pa.keep (fun i hi' => fr.block i (hi.pa.inS i hi') (fun e => hS (e ▸ hi'))) (fun _ h => h) (fun i hi' => Nat.lt_of_lt_of_le (hi.pa.inS i hi') fr.size), ?_, hi.fr.trans' fr⟩
    rw [hf']
    simp only [minK, hx])
/-- what region 13 of stretch reads -/
structure SJ (w : World) (jb fb tb zb : Nat) (j : Job) (fr tz : Int) (x : World) : Prop where
  c0 : x.cell? ⟨jb, 0, none⟩ = some (.int .i64 j.due)
  c2 : x.cell? ⟨jb, 2, none⟩ = some (.int .i64 j.task)
  cf : x.cell? ⟨fb, 0, none⟩ = some (.int .i64 fr)
  ct : x.cell? ⟨tb, 0, none⟩ = some (.int .i64 tz)
  on : Fr (· = zb) w x

theorem Fr.new {S : Nat → Prop} {a b : World} (h : Fr S a b) {g o : Nat} (hg : a.heap.size ≤ g) (u : Value) : Fr S a (b.setCell ⟨g, o, none⟩ u) :=
  ⟨h.os, h.tape, h.output, by rw [size_setCell]; exact h.size, fun k hk hn => (Deep.blk_setCell_other _ _ _ _ (by simp only; omega)).trans (h.block k hk hn)⟩
theorem Fr.after {S : Nat → Prop} {a b c : World} {g : Nat} (h : Fr S a b) (k : Fr (· = g) b c) (hg : a.heap.size ≤ g) : Fr S a c :=
  ⟨k.os.trans h.os, k.tape.trans h.tape, k.output.trans h.output, Nat.le_trans h.size k.size, fun i hi hn => (k.block i (Nat.lt_of_lt_of_le hi h.size) (by omega)).trans (h.block i hi hn)⟩
theorem one_put (a b : Value) : putAll #[a] 0 [b] = #[b] := putAll_full rfl
theorem slc_put (a b : Sl) : putAll (slc a) 0 (slc b).toList = slc b := putAll_full rfl
theorem slc_one (s : Sl) : (slc s).all (·.oneCell') = true := by simp [slc, Value.oneCell']
theorem strL_busy {l : List Ln} {now lim : Int} (h : ¬ (best (rel now l)).task < 0) : strL l now lim = (rel now l, some (slOf (rel now l) (best (rel now l)) now, (best (rel now l)).due)) := by
  unfold strL; rw [if_neg h]
theorem strL_none {l : List Ln} {now lim : Int} (h : (best (rel now l)).task < 0) (h2 : minK (rel now l) lim l.length = lim) : strL l now lim = (rel now l, none) := by
  unfold strL; rw [if_pos h, if_pos h2]
theorem strL_idle {l : List Ln} {now lim fr : Int} (h : (best (rel now l)).task < 0) (h2 : minK (rel now l) lim l.length = fr) (h3 : fr ≠ lim) :
    strL l now lim = (rel fr (rel now l), some (slOf (rel fr (rel now l)) (best (rel fr (rel now l))) fr, (best (rel fr (rel now l))).due)) := by
  unfold strL; rw [if_pos h, h2, if_neg h3]
theorem slOf_eq {L : List Ln} {bd br fr lfv tz : Int} {k : Nat} {x : Ln} (h : L[k]? = some x) (h2 : lfv = x.lf) (h3 : tz = toK L ⟨bd, br, k⟩ (fr + lfv) L.length) : slOf L ⟨bd, br, k⟩ fr = ⟨k, fr, tz, decide (bd < tz)⟩ := by
  have : toOf L ⟨bd, br, k⟩ fr = tz := by
    unfold toOf lfAt
    simp only [Int.toNat_natCast, h]
    rw [h3, h2]
  unfold slOf
  rw [this]
theorem rel_len (T : Int) (l : List Ln) : (rel T l).length = l.length := by unfold rel; simp
theorem idle_best {l : List Ln} {lim fr : Int} (h : minK l lim l.length = fr) (h3 : fr ≠ lim) : ¬ (best (rel fr l)).task < 0 := by
  rcases minK_is (l := l) (lim := lim) l.length (Nat.le_refl _) with h1 | ⟨x, hx, h1⟩
  · exact absurd (h.symm.trans h1) h3
  · rw [h] at h1
    rcases best_idx (rel fr l) with ⟨_, h2⟩ | ⟨i, _, h2, _⟩
    · have := h2 (relL fr x) (List.mem_map_of_mem hx)
      unfold relL relW at this
      rw [if_neg (by omega)] at this
      simp only at this
      split at this
      · simp at this
      · split at this <;> simp at this
    · omega
theorem Fr.weaken {S T : Nat → Prop} {a b : World} (h : Fr S a b) (hT : ∀ k, k < a.heap.size → S k → T k) : Fr T a b :=
  ⟨h.os, h.tape, h.output, h.size, fun k hk hn => h.block k hk (fun e => hn (hT k hk e))⟩
theorem SJ.only {w x y : World} {jb fb tb zb : Nat} {j : Job} {fr tz : Int} (h : SJ w jb fb tb zb j fr tz x) (o : Only zb x y) (h1 : jb ≠ zb) (h2 : fb ≠ zb) (h3 : tb ≠ zb) : SJ w jb fb tb zb j fr tz y :=
  ⟨(o.cell h1).trans h.c0, (o.cell h1).trans h.c2, (o.cell h2).trans h.cf, (o.cell h3).trans h.ct, h.on.trans' (only_fr o)⟩

set_option maxRecDepth 100000 in
set_option maxHeartbeats 4000000 in
theorem str_walk (M : Nat) (hM : M ≤ 4194304) (hM1 : 1 ≤ M) (p lb cap : Nat) (vs : List Value) (S : Nat → Prop) (st : Pl) (lim : Int) (w : World) (h : PAx cY w S p lb cap vs st) (inv : Inv M st) (l0 : 0 ≤ lim) (l1 : lim ≤ 1152921504606846976) (l2 : st.now ≤ lim) :
    Calls Try.prog 34 #[.pointer (some ⟨p, 0, none⟩), .int .i64 lim] w (fun e w' => e = .returned (strV (strL st.l st.now lim).2) ∧ (∃ vs', PAx cY w' (Sx S w w') p lb cap vs' ⟨(strL st.l st.now lim).1, st.now⟩) ∧ Fr S w w') := by
  obtain ⟨l, now⟩ := st
  have p1 := h.p1
  have plt := h.plt
  obtain ⟨n0, n1, il⟩ := inv
  simp only at p1 n0 n1 il l2 ⊢
  have i1 := rel_inv il (Int.le_refl now) hM1
  have H := Lib.hid h
  have SL := Lib.hid h.inS
  have IL := Lib.hid il
  have I1 := Lib.hid i1
  clear h il i1
  go_enter Try.func34, Try.ntmps34
  go_wp2_with fail
  have b0 : Below w.heap.size w ((w.alloc (.cells (slc ⟨0, 0, 0, false⟩) 42)).alloc (.cells #[.int .i64 now] 2)) := ((Below.refl _ w).alloc (Nat.le_refl _) _).alloc (by rw [al_size]; omega) _
  have P0 := Lib.hid (H.out.below b0)
  have F0 := Lib.hid (Fr.of_below (S := S) b0)
  have Z0 := Lib.hid ((Below.heap_alloc (w.alloc (.cells (slc ⟨0, 0, 0, false⟩) 42)) (.cells #[.int .i64 now] 2) w.heap.size (by rw [al_size]; omega)).trans (Deep.blk_alloc_new w (.cells (slc ⟨0, 0, 0, false⟩) 42)))
  have f0' := Deep.blk_alloc_new (w.alloc (.cells (slc ⟨0, 0, 0, false⟩) 42)) (.cells #[.int .i64 now] 2)
  rw [al_size] at f0'
  have FB0 := Lib.hid f0'
  clear b0 f0' p1

  refine (rel_walk p lb cap vs S ⟨l, now⟩ now _ P0.out (fun x hx => okl_of (IL.out x hx) hM n1) n0 n1).mono ?_
  rintro e w1 ⟨rfl, ⟨vs1, q1⟩, g1⟩
  have Q1 := Lib.hid q1
  have F1 := Lib.hid (F0.out.trans' g1)
  have ns1 : ¬ S w.heap.size := fun e => by have := H.out.inS _ e; omega
  have ns2 : ¬ S (w.heap.size + 1) := fun e => by have := H.out.inS _ e; omega
  have Z1 := Lib.hid ((g1.block w.heap.size (by rw [al_size, al_size]; omega) ns1).trans Z0.out)
  have FB1 := Lib.hid ((g1.block (w.heap.size + 1) (by rw [al_size, al_size]; omega) ns2).trans FB0.out)
  have SZ1 := Lib.hid g1.size
  clear q1 g1 P0 F0 Z0 FB0
  go_wp2_with fail
  refine (first_walk p lb cap vs1 _ ⟨rel now l, now⟩ _ Q1.out (fun x hx => okl_of (I1.out x hx) hM n1)).mono ?_
  rintro e w2 ⟨rfl, b2⟩
  have Q2 := Lib.hid (Q1.out.below b2)
  have F2 := Lib.hid (F1.out.then b2)
  have Z2 := Lib.hid ((b2.block _ (blk_lt Z1.out)).trans Z1.out)
  have FB2 := Lib.hid ((b2.block _ (blk_lt FB1.out)).trans FB1.out)
  have SZ2 := Lib.hid b2.size
  have BI := best_idx (rel now l)
  obtain ⟨⟨bd, br, bt⟩, hbt⟩ : ∃ j, j = best (rel now l) := ⟨_, rfl⟩
  simp only
  rw [← hbt] at BI ⊢
  simp only [jbc]
  have HBI := Lib.hid BI
  have HBT := Lib.hid hbt
  obtain ⟨SS, qs, si, ms1, ms2⟩ : ∃ SS : Nat → Prop, PAx cY w2 SS p lb cap vs1 ⟨rel now l, now⟩ ∧ (∀ k, SS k → S k ∨ w.heap.size ≤ k) ∧ ¬ SS w.heap.size ∧ ¬ SS (w.heap.size + 1) :=
    ⟨_, Q2.out, fun k hk => hk.imp id fun e => by have := e.1; rw [al_size, al_size] at this; omega, fun e => e.elim ns1 fun e => by have := e.1; rw [al_size, al_size] at this; omega, fun e => e.elim ns2 fun e => by have := e.1; rw [al_size, al_size] at this; omega⟩
  have NS3 : ¬ SS w2.heap.size := fun e => by have := qs.inS _ e; omega
  have QS := Lib.hid qs
  have SI := Lib.hid si
  have MS1 := Lib.hid ms1
  have MS2 := Lib.hid ms2
  have MS3 := Lib.hid NS3
  clear b2 Z1 FB1 Q1 F1 hbt Q2 ns1 ns2 qs si ms1 ms2 NS3 BI H SZ1
  by_cases hneg : bt < 0
  · have hNg : Hid (bt < 0) := Lib.hid hneg
    have bA : Below w2.heap.size w2 (w2.alloc (.cells #[.int .i64 bd, .int .i64 br, .int .i64 bt] 94)) := (Below.refl _ _).alloc (Nat.le_refl _) _
    have P := Lib.hid (QS.out.below bA)
    have F := Lib.hid (F2.out.then bA)
    have JB : Hid ((w2.alloc (.cells #[.int .i64 bd, .int .i64 br, .int .i64 bt] 94)).heap[w2.heap.size]? = some (.cells (jbc ⟨bd, br, bt⟩) 94 (0, 0))) := Lib.hid (Deep.blk_alloc_new w2 _)
    have FB := Lib.hid ((bA.block _ (blk_lt FB2.out)).trans FB2.out)
    have ZB := Lib.hid ((bA.block _ (blk_lt Z2.out)).trans Z2.out)
    obtain ⟨jb, hjb⟩ : ∃ jb, jb = w2.heap.size := ⟨_, rfl⟩
    rw [← hjb] at JB MS3
    have JN := Lib.hid (show w.heap.size + 1 < jb by rw [hjb]; exact blk_lt FB2.out)
    have f0 := blk_cell FB.out 0
    have ff := blk_fz FB.out 0
    go_upto_region 4 with (fail)
    rw [← hjb]
    generalize w2.alloc (.cells #[.int .i64 bd, .int .i64 br, .int .i64 bt] 94) = wx at P F JB FB ZB f0 ff ⊢
    clear bA QS F2 FB2 Z2 HBI hjb
    have hm1 : now ≤ minK (rel now l) lim (rel now l).length := minK_ge l2 (fun x hx => by
      obtain ⟨y, hy, rfl⟩ := List.mem_map.1 hx
      exact Int.le_of_lt (rel_next (IL.out y hy).ev1)) _
    have hm2 : minK (rel now l) lim (rel now l).length ≤ lim := minK_le _
    obtain ⟨fr, hfr⟩ : ∃ fr, fr = minK (rel now l) lim (rel now l).length := ⟨_, rfl⟩
    rw [← hfr] at hm1 hm2
    have HFR := Lib.hid hfr
    have j2 := blk_cell JB.out 2
    simp only [jbc] at j2
    have oth : ∀ i, i ≠ w.heap.size + 1 → (wx.setCell ⟨w.heap.size + 1, 0, none⟩ (.int .i64 lim)).heap[i]? = wx.heap[i]? := fun i hi => Deep.blk_setCell_other _ _ _ _ hi
    have P5 : PAx cY (wx.setCell ⟨w.heap.size + 1, 0, none⟩ (.int .i64 lim)) SS p lb cap _ ⟨rel now l, now⟩ := P.out.keep (fun i hi => oth i (fun e => MS2.out (e ▸ hi))) (fun _ h => h) (fun i hi => by rw [size_setCell]; exact P.out.inS i hi)
    have T5 : (wx.setCell ⟨w.heap.size + 1, 0, none⟩ (.int .i64 lim)).heap[w.heap.size + 1]? = some (.cells #[.int .i64 lim] 2 (0, 0)) := blk_setCell _ _ _ _ FB.out
    have F5 := Lib.hid (F.out.new (g := w.heap.size + 1) (o := 0) (by omega) (.int .i64 lim))
    have J5 := Lib.hid ((oth jb (by have := JN.out; omega)).trans JB.out)
    have Z5 := Lib.hid ((oth w.heap.size (by omega)).trans ZB.out)
    have E := min_each (st := ⟨rel now l, now⟩) (fb := w.heap.size + 1) (lim := lim) MS2.out P5 T5
    have E5 := Lib.hid E
    clear oth P5 T5 E P F JB FB ZB hfr
    go_wp2_with fail
    clear f0 ff j2
    refine E5.out.mono ?_
    rintro e w3 ⟨rfl, mi⟩
    have tt := mi.hf
    simp only at tt
    rw [← HFR.out] at tt
    have fz := mi.fr
    have P6 := Lib.hid mi.pa
    have F6 := Lib.hid (F5.out.after fz (by omega))
    have J6 := Lib.hid ((fz.block _ (blk_lt J5.out) (by have := JN.out; omega)).trans J5.out)
    have Z6 := Lib.hid ((fz.block _ (blk_lt Z5.out) (by omega)).trans Z5.out)
    have G6 := Lib.hid tt
    have f0 := blk_cell tt 0
    clear mi fz tt E5 F5 J5 Z5
    by_cases hfl : fr = lim
    · subst hfl
      have d0 := blk_cell Z6.out 0
      have d1 := blk_cell Z6.out 1
      have d2 := blk_cell Z6.out 2
      have d3 := blk_cell Z6.out 3
      simp only [slc] at d0 d1 d2 d3
      go_wp2_with (refine wpList_store_at rfl (ty := 42) (x := .tmp 4) (y := .tmp 29) rfl (g := w.heap.size) (j := 0) (cells := slc ⟨0, 0, 0, false⟩) rfl rfl Z6.out (by kernel_rfl) (Nat.le_refl _) (slc_one _) ?_; intro w8 hz8 on8)
      rw [slc_put] at hz8
      have Z8 := Lib.hid hz8
      have P8 := Lib.hid (P6.out.keep (S' := SS) (fun i hi => on8.block i (fun e => MS1.out (e ▸ hi))) (fun _ h => h) (fun i hi => by rw [on8.size]; exact P6.out.inS i hi))
      have F8 := Lib.hid (F6.out.after (only_fr on8) (Nat.le_refl _))
      clear hz8 on8 P6 F6 Z6 d0 d1 d2 d3 f0
      go_wp2_with fail
      have d0 := blk_cell Z8.out 0
      have d1 := blk_cell Z8.out 1
      have d2 := blk_cell Z8.out 2
      have d3 := blk_cell Z8.out 3
      simp only [slc] at d0 d1 d2 d3
      have SN := strL_none (l := l) (now := now) (lim := fr) (by rw [← HBT.out]; exact hNg.out) (by have := HFR.out; rw [rel_len] at this; exact this.symm)
      refine bodyPost_ret (v := .tuple #[.agg (slc ⟨0, 0, 0, false⟩), .int .i64 0, .bool false]) (by simp [results, Try.results34, go_sem, d0, d1, d2, d3, slc]) rfl ⟨?_, ?_, F8.out⟩
      · rw [SN]; rfl
      · rw [SN]
        exact ⟨_, P8.out.keep (fun _ _ => rfl) (fun k hk => (SI.out k hk).elim .inl (fun e => .inr ⟨e, P8.out.inS k hk⟩)) (fun k hk => hk.elim (fun e => Nat.lt_of_lt_of_le (SL.out k e) F8.out.size) (·.2))⟩
    · have hfb : (fr == lim) = false := by simpa using hfl
      have i2 := rel_inv I1.out hm1 hM1
      have HFL := Lib.hid hfl
      have I2 := Lib.hid i2
      clear hfl i2
      go_wp2_with fail
      refine (rel_walk p lb cap vs1 SS ⟨rel now l, now⟩ fr _ P6.out (fun x hx => okl_of (I1.out x hx) hM n1) (by omega) (by omega)).mono ?_
      rintro e w4 ⟨rfl, ⟨vs2, q⟩, g⟩
      have gs := g.size
      have zw : w.heap.size + 1 < w3.heap.size := blk_lt G6.out
      have F7 := Lib.hid (F6.out.trans (g.weaken (T := Sx S w w3) fun k hk e => (SI.out k e).elim .inl fun e => .inr ⟨e, hk⟩))
      have J7 := Lib.hid ((g.block jb (blk_lt J6.out) MS3.out).trans J6.out)
      have Z7 := Lib.hid ((g.block w.heap.size (by omega) MS1.out).trans Z6.out)
      have G7 := Lib.hid ((g.block (w.heap.size + 1) zw MS2.out).trans G6.out)
      obtain ⟨TT, qs, si, ms1, ms2, ms3⟩ : ∃ TT : Nat → Prop, PAx cY w4 TT p lb cap vs2 ⟨rel fr (rel now l), now⟩ ∧ (∀ k, TT k → S k ∨ w.heap.size ≤ k) ∧ ¬ TT w.heap.size ∧ ¬ TT (w.heap.size + 1) ∧ ¬ TT jb :=
        ⟨_, q, fun k hk => hk.elim (SI.out k) fun e => .inr (by have := e.1; omega), fun e => e.elim MS1.out fun e => by have := e.1; omega, fun e => e.elim MS2.out fun e => by have := e.1; omega, fun e => e.elim MS3.out fun e => by have := e.1; have := blk_lt J6.out; omega⟩
      have Q7 := Lib.hid qs
      have UI := Lib.hid si
      have U1 := Lib.hid ms1
      have U3 := Lib.hid ms3
      clear q g gs qs si ms1 ms2 ms3 F6 J6 Z6 G6 P6 f0
      go_wp2_with fail
      refine (first_walk p lb cap vs2 TT ⟨rel fr (rel now l), now⟩ _ Q7.out (fun x hx => okl_of (I2.out x hx) hM (by omega))).mono ?_
      rintro e w5 ⟨rfl, b5⟩
      have P8 := Lib.hid (Q7.out.below b5)
      have F8 := Lib.hid (F7.out.then b5)
      have J8 := Lib.hid ((b5.block _ (blk_lt J7.out)).trans J7.out)
      have Z8 := Lib.hid ((b5.block _ (blk_lt Z7.out)).trans Z7.out)
      have G8 := Lib.hid ((b5.block _ (blk_lt G7.out)).trans G7.out)
      have BI2 := best_idx (rel fr (rel now l))
      have NB := idle_best (l := rel now l) HFR.out.symm HFL.out
      obtain ⟨⟨ad, ar, at'⟩, hbt⟩ : ∃ j, j = best (rel fr (rel now l)) := ⟨_, rfl⟩
      simp only
      rw [← hbt] at BI2 NB ⊢
      simp only [jbc]
      obtain ⟨k, rfl⟩ : ∃ k : Nat, at' = (k : Int) := ⟨at'.toNat, by simp only at NB; omega⟩
      obtain ⟨x, r, ws, hx, hwt⟩ : ∃ x r ws, (rel fr (rel now l))[k]? = some x ∧ x.wt = r :: ws := by
        rcases BI2 with ⟨h, _⟩ | ⟨i, _, h, x, r, ws, hx, hw, _⟩
        · simp only at h; omega
        · have : i = k := by simp only at h; omega
          subst this
          exact ⟨x, r, ws, hx, hw⟩
      have ix := I2.out x (List.mem_of_getElem? hx)
      obtain ⟨lfv, hlf⟩ : ∃ lfv, lfv = x.lf := ⟨_, rfl⟩
      have LF := Lib.hid (show 0 ≤ lfv ∧ lfv ≤ 1099511627776 by rw [hlf]; exact ⟨ix.lf0, ix.lf1⟩)
      have OKX := Lib.hid hx
      have OKL := Lib.hid (fun x hx => okl_of (I2.out x hx) hM (by omega) : ∀ x ∈ rel fr (rel now l), OkL x)
      have HLF := Lib.hid hlf
      have HB0 := HBT
      have HBT := Lib.hid hbt
      clear b5 Q7 F7 J7 Z7 G7 BI2 hbt hx hwt ix hlf NB
      go_wp2_with (refine wpList_store_at rfl (ty := 94) (x := .tmp 8) (y := .tmp 34) rfl (g := jb) (j := 0) (cells := jbc ⟨ad, ar, k⟩) rfl rfl J8.out (by kernel_rfl) (Nat.le_refl _) (jbc_one _) ?_; intro wy hj6 on6)
      rw [jb_put] at hj6
      have P := Lib.hid (P8.out.keep (S' := TT) (fun i hi => on6.block i (fun e => U3.out (e ▸ hi))) (fun _ h => h) (fun i hi => by rw [on6.size]; exact P8.out.inS i hi))
      have F := Lib.hid (F8.out.after (only_fr on6) (by have := JN.out; omega))
      have JB := Lib.hid hj6
      have FB := Lib.hid ((on6.block (w.heap.size + 1) (by have := JN.out; omega)).trans G8.out)
      have ZB := Lib.hid ((on6.block w.heap.size (by have := JN.out; omega)).trans Z8.out)
      clear hj6 on6 P8 F8 J8 Z8 G8
      have hx := OKX.out
      obtain ⟨v5, hv5, A5, W5⟩ := P.out.ln hx
      have p0 := P.out.p0
      have hkl : k < (rel fr (rel now l)).length := (List.getElem?_eq_some_iff.1 hx).1
      have hcl := P.out.cap1
      have hc6 := P.out.cap2
      have c5 := A5.c5
      have f0 := blk_cell FB.out 0
      have j2 := blk_cell JB.out 2
      have pl := P.out.plt
      have ll := P.out.lblt
      have fl := blk_lt FB.out
      have jl := blk_lt JB.out
      have lf0 := LF.out.1
      have lf1 := LF.out.2
      have wz : IntKind.i64.wrap (fr + lfv) = fr + lfv := IntWalk.i64_in _ (by omega)
      obtain ⟨nL, hnL⟩ : ∃ nL, nL = (rel fr (rel now l)).length := ⟨_, rfl⟩
      simp only at p0 hcl
      rw [← hnL] at p0 hkl hcl
      have HNL := Lib.hid hnL
      simp only [jbc] at j2
      rw [← HLF.out] at c5
      clear hx hv5 A5 W5 hnL
      refine wp_region_G_tail 12 TNH (by kernel_rfl) (by kernel_rfl) ?_
      simp only [List.take, List.drop]
      iterate 11 (refine wpG_step' (fun K hA hK => ?_); go_simp; (refine bothG_value hA (v := ?_) (fun w' hw' => ?_) ?_; rotate_left; (· go_simp; rfl); (refine hK _ _ ?_; clear hK hA K)))
      refine wpG_step' (fun K hA hK => ?_); go_simp; (refine bothG_alloc (ob := ?_) (fun w' => ?_) ?_; rotate_left; (· go_simp; rfl); (intro n x hn1 hn2 hn3; refine hK _ _ ?_; clear hK hA K))
      refine wpG_nil ?_
      intro w4 hb4 hF
      have TB4 := Lib.hid ((hF.2.block n hn2).trans hn3)
      have P4 := Lib.hid (P.out.below hb4)
      have F4 := Lib.hid (F.out.then hb4)
      have JB4 := Lib.hid ((hb4.block _ jl).trans JB.out)
      have FB4 := Lib.hid ((hb4.block _ fl).trans FB.out)
      have ZB4 := Lib.hid ((hb4.block _ (blk_lt ZB.out)).trans ZB.out)
      have NN := Lib.hid (show ¬ TT n ∧ jb < n by exact ⟨fun e => by have := P.out.inS _ e; omega, by omega⟩)
      have t0 := blk_cell TB4.out 0
      have tf := blk_fz TB4.out 0
      have tl := blk_lt TB4.out
      clear hF hb4 hn1 hn2 hn3 p0 c5 f0 j2 pl ll fl jl P F JB FB ZB lf0 lf1
      go_wp2_with fail
      clear t0 tf wz
      have oth : ∀ i, i ≠ n → (w4.setCell ⟨n, 0, none⟩ (.int .i64 (fr + lfv))).heap[i]? = w4.heap[i]? := fun i hi => Deep.blk_setCell_other _ _ _ _ hi
      have P5 : PAx cY (w4.setCell ⟨n, 0, none⟩ (.int .i64 (fr + lfv))) TT p lb cap _ ⟨rel fr (rel now l), now⟩ := P4.out.keep (fun i hi => oth i (fun e => NN.out.1 (e ▸ hi))) (fun _ h => h) (fun i hi => by rw [size_setCell]; exact P4.out.inS i hi)
      have T5 : (w4.setCell ⟨n, 0, none⟩ (.int .i64 (fr + lfv))).heap[n]? = some (.cells #[.int .i64 (fr + lfv)] 2 (0, 0)) := blk_setCell _ _ _ _ TB4.out
      have F5 := Lib.hid (F4.out.new (g := n) (o := 0) (by have := JN.out; have := NN.out.2; omega) (.int .i64 (fr + lfv)))
      have J5 := Lib.hid ((oth jb (by have := NN.out.2; omega)).trans JB4.out)
      have G5 := Lib.hid ((oth (w.heap.size + 1) (by have := JN.out; have := NN.out.2; omega)).trans FB4.out)
      have Z5 := Lib.hid ((oth w.heap.size (by have := JN.out; have := NN.out.2; omega)).trans ZB4.out)
      have E := to_each (st := ⟨rel fr (rel now l), now⟩) (jb := jb) (tb := n) (j := ⟨ad, ar, k⟩) (tz := fr + lfv) OKL.out U3.out NN.out.1 (by have := NN.out.2; omega) P5 J5.out T5
      have E5 := Lib.hid E
      clear oth P5 T5 E P4 F4 JB4 FB4 ZB4 TB4
      go_wp2_with fail
      refine E5.out.mono ?_
      rintro e w6 ⟨rfl, ti⟩
      obtain ⟨tz, hto⟩ : ∃ tz, tz = toK (rel fr (rel now l)) ⟨ad, ar, k⟩ (fr + lfv) (rel fr (rel now l)).length := ⟨_, rfl⟩
      have tt := ti.ht
      simp only at tt
      rw [← hto] at tt
      have TC := Lib.hid tt
      have TO := Lib.hid hto
      have J6 := Lib.hid ti.hj
      have fz := ti.fr
      have P6 := Lib.hid ti.pa
      have F6 := Lib.hid (F5.out.after fz (by have := JN.out; have := NN.out.2; omega))
      have G6 := Lib.hid ((fz.block _ (blk_lt G5.out) (by have := JN.out; have := NN.out.2; omega)).trans G5.out)
      have Z6 := Lib.hid ((fz.block _ (blk_lt Z5.out) (by have := JN.out; have := NN.out.2; omega)).trans Z5.out)
      clear ti fz tt hto E5 F5 J5 G5 Z5
      go_wp2_with fail
      refine wp_region_J1 14 (SJ w6 jb (w.heap.size + 1) n w.heap.size ⟨ad, ar, k⟩ (fr) tz) (by kernel_rfl) rfl (by kernel_rfl) ⟨blk_cell J6.out 0, blk_cell J6.out 2, blk_cell G6.out 0, blk_cell TC.out 0, ⟨rfl, rfl, rfl, Nat.le_refl _, fun _ _ _ => rfl⟩⟩ (fun w7 hb7 hJ hs => ?_)
      have HJ := Lib.hid hJ
      have P7 := Lib.hid (P6.out.below hb7)
      have F7 := Lib.hid (F6.out.then hb7)
      have Z7 := Lib.hid ((hb7.block _ (blk_lt Z6.out)).trans Z6.out)
      clear hb7 hJ P6 F6 Z6 J6 G6 TC
      (refine j_take 0 _ ?_ hs rfl rfl (by kernel_rfl) (by kernel_rfl) HJ.out (fun w' hw' => ?_) ?_; rotate_left; (· have c0 := hw'.c0; have c2 := hw'.c2; have cf := hw'.cf; have ct := hw'.ct; go_simp; rfl); (go_simp))
      (refine j_take 1 _ ?_ hs rfl rfl (by kernel_rfl) (by kernel_rfl) HJ.out (fun w' hw' => ?_) ?_; rotate_left; (· have c0 := hw'.c0; have c2 := hw'.c2; have cf := hw'.cf; have ct := hw'.ct; go_simp; rfl); (go_simp))
      (refine j_take 2 _ ?_ hs rfl rfl (by kernel_rfl) (by kernel_rfl) HJ.out (fun w' hw' => ?_) ?_; rotate_left; (· have c0 := hw'.c0; have c2 := hw'.c2; have cf := hw'.cf; have ct := hw'.ct; go_simp; rfl); (go_simp))
      (refine j_take 3 _ ?_ hs rfl rfl (by kernel_rfl) (by kernel_rfl) HJ.out (fun w' hw' => ?_) ?_; rotate_left; (· have c0 := hw'.c0; have c2 := hw'.c2; have cf := hw'.cf; have ct := hw'.ct; go_simp; rfl); (go_simp))
      (refine j_take 4 _ ?_ hs rfl rfl (by kernel_rfl) (by kernel_rfl) HJ.out (fun w' hw' => ?_) ?_; rotate_left; (· have c0 := hw'.c0; have c2 := hw'.c2; have cf := hw'.cf; have ct := hw'.ct; go_simp; rfl); (go_simp))
      (refine j_take 5 _ ?_ hs rfl rfl (by kernel_rfl) (by kernel_rfl) HJ.out (fun w' hw' => ?_) ?_; rotate_left; (· have c0 := hw'.c0; have c2 := hw'.c2; have cf := hw'.cf; have ct := hw'.ct; go_simp; rfl); (go_simp))
      (refine j_take 6 _ ?_ hs rfl rfl (by kernel_rfl) (by kernel_rfl) HJ.out (fun w' hw' => ?_) ?_; rotate_left; (· have c0 := hw'.c0; have c2 := hw'.c2; have cf := hw'.cf; have ct := hw'.ct; go_simp; rfl); (go_simp))
      (refine j_take 7 _ ?_ hs rfl rfl (by kernel_rfl) (by kernel_rfl) HJ.out (fun w' hw' => ?_) ?_; rotate_left; (· have c0 := hw'.c0; have c2 := hw'.c2; have cf := hw'.cf; have ct := hw'.ct; go_simp; rfl); (go_simp))
      (refine j_take 8 _ ?_ hs rfl rfl (by kernel_rfl) (by kernel_rfl) HJ.out (fun w' hw' => ?_) ?_; rotate_left; (· have c0 := hw'.c0; have c2 := hw'.c2; have cf := hw'.cf; have ct := hw'.ct; go_simp; rfl); (go_simp))
      (refine j_take 9 _ ?_ hs rfl rfl (by kernel_rfl) (by kernel_rfl) HJ.out (fun w' hw' => ?_) ?_; rotate_left; (· have c0 := hw'.c0; have c2 := hw'.c2; have cf := hw'.cf; have ct := hw'.ct; go_simp; rfl); (go_simp))
      (refine j_take 10 _ ?_ hs rfl rfl (by kernel_rfl) (by kernel_rfl) HJ.out (fun w' hw' => ?_) ?_; rotate_left; (· have c0 := hw'.c0; have c2 := hw'.c2; have cf := hw'.cf; have ct := hw'.ct; go_simp; rfl); (go_simp))

      refine j_one 11 _ rfl (by kernel_rfl) HJ.out ?_
      refine wpList_store_at rfl (ty := 42) (x := .tmp 4) (y := .tmp 57) rfl (g := w.heap.size) (j := 0) (cells := slc ⟨k, fr, tz, decide (ad < tz)⟩) rfl rfl Z7.out (by kernel_rfl) (Nat.le_refl _) (slc_one _) ?_
      intro w8 hz8 on8
      rw [slc_put] at hz8
      have HJ8 := Lib.hid <| HJ.out.only on8 (by have := JN.out; omega) (by omega) (by have := JN.out; have := NN.out.2; omega)
      have Z8 := Lib.hid hz8
      have P8 := Lib.hid (P7.out.keep (S' := TT) (fun i hi => on8.block i (fun e => U1.out (e ▸ hi))) (fun _ h => h) (fun i hi => by rw [on8.size]; exact P7.out.inS i hi))
      have F8 := Lib.hid (F7.out.after (only_fr on8) (Nat.le_refl _))
      clear hz8 on8 P7 F7 Z7 HJ
      go_wp2_with fail
      refine ⟨HJ8.out, ?_⟩
      refine j_one 12 _ rfl (by kernel_rfl) HJ8.out ?_
      go_wp2_with fail
      refine ⟨HJ8.out, ?_⟩
      refine j_one 13 _ rfl (by kernel_rfl) HJ8.out ?_
      go_wp2_with fail
      refine ⟨HJ8.out, j_done (by kernel_rfl) ?_⟩
      go_wp2_with fail
      have d0 := blk_cell Z8.out 0
      have d1 := blk_cell Z8.out 1
      have d2 := blk_cell Z8.out 2
      have d3 := blk_cell Z8.out 3
      simp only [slc] at d0 d1 d2 d3
      refine bodyPost_ret (v := .tuple #[.agg (slc ⟨k, fr, tz, decide (ad < tz)⟩), .int .i64 ad, .bool true]) (by simp [results, Try.results34, go_sem, d0, d1, d2, d3, slc]) rfl ⟨?_, ?_, F8.out⟩
      · rw [strL_idle (l := l) (now := now) (fr := fr) (by rw [← HB0.out]; exact hNg.out) (by have := HFR.out; rw [rel_len] at this; exact this.symm) HFL.out, ← HBT.out, slOf_eq OKX.out HLF.out TO.out]; rfl
      · rw [strL_idle (l := l) (now := now) (fr := fr) (by rw [← HB0.out]; exact hNg.out) (by have := HFR.out; rw [rel_len] at this; exact this.symm) HFL.out]
        exact ⟨_, P8.out.keep (fun _ _ => rfl) (fun k hk => (UI.out k hk).elim .inl (fun e => .inr ⟨e, P8.out.inS k hk⟩)) (fun k hk => hk.elim (fun e => Nat.lt_of_lt_of_le (SL.out k e) F8.out.size) (·.2))⟩
  · obtain ⟨k, rfl⟩ : ∃ k : Nat, bt = (k : Int) := ⟨bt.toNat, by omega⟩
    obtain ⟨x, r, ws, hx, hwt⟩ : ∃ x r ws, (rel now l)[k]? = some x ∧ x.wt = r :: ws := by
      rcases HBI.out with ⟨h, _⟩ | ⟨i, _, h, x, r, ws, hx, hw, _⟩
      · simp only at h; omega
      · have : i = k := by simp only at h; omega
        subst this
        exact ⟨x, r, ws, hx, hw⟩
    have ix := I1.out x (List.mem_of_getElem? hx)
    obtain ⟨lfv, hlf⟩ : ∃ lfv, lfv = x.lf := ⟨_, rfl⟩
    have LF := Lib.hid (show 0 ≤ lfv ∧ lfv ≤ 1099511627776 by rw [hlf]; exact ⟨ix.lf0, ix.lf1⟩)
    have OKX := Lib.hid hx
    have OKL := Lib.hid (fun x hx => okl_of (I1.out x hx) hM n1 : ∀ x ∈ rel now l, OkL x)
    have HLF := Lib.hid hlf
    have bA : Below w2.heap.size w2 (w2.alloc (.cells #[.int .i64 bd, .int .i64 br, .int .i64 k] 94)) := (Below.refl _ _).alloc (Nat.le_refl _) _
    have P := Lib.hid (QS.out.below bA)
    have F := Lib.hid (F2.out.then bA)
    have JB : Hid ((w2.alloc (.cells #[.int .i64 bd, .int .i64 br, .int .i64 k] 94)).heap[w2.heap.size]? = some (.cells (jbc ⟨bd, br, k⟩) 94 (0, 0))) := Lib.hid (Deep.blk_alloc_new w2 _)
    have FB := Lib.hid ((bA.block _ (blk_lt FB2.out)).trans FB2.out)
    have ZB := Lib.hid ((bA.block _ (blk_lt Z2.out)).trans Z2.out)
    obtain ⟨jb, hjb⟩ : ∃ jb, jb = w2.heap.size := ⟨_, rfl⟩
    rw [← hjb] at JB MS3
    have JN := Lib.hid (show w.heap.size + 1 < jb by rw [hjb]; exact blk_lt FB2.out)
    go_wp2_with fail
    rw [← hjb]
    generalize w2.alloc (.cells #[.int .i64 bd, .int .i64 br, .int .i64 (k : Int)] 94) = wx at P F JB FB ZB ⊢
    clear hx ix hlf bA QS F2 FB2 Z2 hwt HBI hjb
    have hx := OKX.out
    obtain ⟨v5, hv5, A5, W5⟩ := P.out.ln hx
    have p0 := P.out.p0
    have hkl : k < (rel now l).length := (List.getElem?_eq_some_iff.1 hx).1
    have hcl := P.out.cap1
    have hc6 := P.out.cap2
    have c5 := A5.c5
    have f0 := blk_cell FB.out 0
    have j2 := blk_cell JB.out 2
    have pl := P.out.plt
    have ll := P.out.lblt
    have fl := blk_lt FB.out
    have jl := blk_lt JB.out
    have lf0 := LF.out.1
    have lf1 := LF.out.2
    have wz : IntKind.i64.wrap (now + lfv) = now + lfv := IntWalk.i64_in _ (by omega)
    obtain ⟨nL, hnL⟩ : ∃ nL, nL = (rel now l).length := ⟨_, rfl⟩
    simp only at p0 hcl
    rw [← hnL] at p0 hkl hcl
    have HNL := Lib.hid hnL
    simp only [jbc] at j2
    rw [← HLF.out] at c5
    clear hx hv5 A5 W5 hnL
    refine wp_region_G_tail 12 TNH (by kernel_rfl) (by kernel_rfl) ?_
    simp only [List.take, List.drop]
    iterate 11 (refine wpG_step' (fun K hA hK => ?_); go_simp; (refine bothG_value hA (v := ?_) (fun w' hw' => ?_) ?_; rotate_left; (· go_simp; rfl); (refine hK _ _ ?_; clear hK hA K)))
    refine wpG_step' (fun K hA hK => ?_); go_simp; (refine bothG_alloc (ob := ?_) (fun w' => ?_) ?_; rotate_left; (· go_simp; rfl); (intro n x hn1 hn2 hn3; refine hK _ _ ?_; clear hK hA K))
    refine wpG_nil ?_
    intro w4 hb4 hF
    have TB4 := Lib.hid ((hF.2.block n hn2).trans hn3)
    have P4 := Lib.hid (P.out.below hb4)
    have F4 := Lib.hid (F.out.then hb4)
    have JB4 := Lib.hid ((hb4.block _ jl).trans JB.out)
    have FB4 := Lib.hid ((hb4.block _ fl).trans FB.out)
    have ZB4 := Lib.hid ((hb4.block _ (blk_lt ZB.out)).trans ZB.out)
    have NN := Lib.hid (show ¬ SS n ∧ jb < n by exact ⟨fun e => by have := P.out.inS _ e; omega, by omega⟩)
    have t0 := blk_cell TB4.out 0
    have tf := blk_fz TB4.out 0
    have tl := blk_lt TB4.out
    clear hF hb4 hn1 hn2 hn3 p0 c5 f0 j2 pl ll fl jl P F JB FB ZB lf0 lf1
    go_wp2_with fail
    clear t0 tf wz
    have oth : ∀ i, i ≠ n → (w4.setCell ⟨n, 0, none⟩ (.int .i64 (now + lfv))).heap[i]? = w4.heap[i]? := fun i hi => Deep.blk_setCell_other _ _ _ _ hi
    have P5 : PAx cY (w4.setCell ⟨n, 0, none⟩ (.int .i64 (now + lfv))) SS p lb cap _ ⟨rel now l, now⟩ := P4.out.keep (fun i hi => oth i (fun e => NN.out.1 (e ▸ hi))) (fun _ h => h) (fun i hi => by rw [size_setCell]; exact P4.out.inS i hi)
    have T5 : (w4.setCell ⟨n, 0, none⟩ (.int .i64 (now + lfv))).heap[n]? = some (.cells #[.int .i64 (now + lfv)] 2 (0, 0)) := blk_setCell _ _ _ _ TB4.out
    have F5 := Lib.hid (F4.out.new (g := n) (o := 0) (by have := JN.out; have := NN.out.2; omega) (.int .i64 (now + lfv)))
    have J5 := Lib.hid ((oth jb (by have := NN.out.2; omega)).trans JB4.out)
    have G5 := Lib.hid ((oth (w.heap.size + 1) (by have := JN.out; have := NN.out.2; omega)).trans FB4.out)
    have Z5 := Lib.hid ((oth w.heap.size (by have := JN.out; have := NN.out.2; omega)).trans ZB4.out)
    have E := to_each (st := ⟨rel now l, now⟩) (jb := jb) (tb := n) (j := ⟨bd, br, k⟩) (tz := now + lfv) OKL.out MS3.out NN.out.1 (by have := NN.out.2; omega) P5 J5.out T5
    have E5 := Lib.hid E
    clear oth P5 T5 E P4 F4 JB4 FB4 ZB4 TB4
    go_wp2_with fail
    refine E5.out.mono ?_
    rintro e w6 ⟨rfl, ti⟩
    obtain ⟨tz, hto⟩ : ∃ tz, tz = toK (rel now l) ⟨bd, br, k⟩ (now + lfv) (rel now l).length := ⟨_, rfl⟩
    have tt := ti.ht
    simp only at tt
    rw [← hto] at tt
    have TT := Lib.hid tt
    have TO := Lib.hid hto
    have J6 := Lib.hid ti.hj
    have fz := ti.fr
    have P6 := Lib.hid ti.pa
    have F6 := Lib.hid (F5.out.after fz (by have := JN.out; have := NN.out.2; omega))
    have G6 := Lib.hid ((fz.block _ (blk_lt G5.out) (by have := JN.out; have := NN.out.2; omega)).trans G5.out)
    have Z6 := Lib.hid ((fz.block _ (blk_lt Z5.out) (by have := JN.out; have := NN.out.2; omega)).trans Z5.out)
    clear ti fz tt hto E5 F5 J5 G5 Z5
    go_wp2_with fail
    refine wp_region_J1 14 (SJ w6 jb (w.heap.size + 1) n w.heap.size ⟨bd, br, k⟩ (now) tz) (by kernel_rfl) rfl (by kernel_rfl) ⟨blk_cell J6.out 0, blk_cell J6.out 2, blk_cell G6.out 0, blk_cell TT.out 0, ⟨rfl, rfl, rfl, Nat.le_refl _, fun _ _ _ => rfl⟩⟩ (fun w7 hb7 hJ hs => ?_)
    have HJ := Lib.hid hJ
    have P7 := Lib.hid (P6.out.below hb7)
    have F7 := Lib.hid (F6.out.then hb7)
    have Z7 := Lib.hid ((hb7.block _ (blk_lt Z6.out)).trans Z6.out)
    clear hb7 hJ P6 F6 Z6 J6 G6 TT
    (refine j_take 0 _ ?_ hs rfl rfl (by kernel_rfl) (by kernel_rfl) HJ.out (fun w' hw' => ?_) ?_; rotate_left; (· have c0 := hw'.c0; have c2 := hw'.c2; have cf := hw'.cf; have ct := hw'.ct; go_simp; rfl); (go_simp))
    (refine j_take 1 _ ?_ hs rfl rfl (by kernel_rfl) (by kernel_rfl) HJ.out (fun w' hw' => ?_) ?_; rotate_left; (· have c0 := hw'.c0; have c2 := hw'.c2; have cf := hw'.cf; have ct := hw'.ct; go_simp; rfl); (go_simp))
    (refine j_take 2 _ ?_ hs rfl rfl (by kernel_rfl) (by kernel_rfl) HJ.out (fun w' hw' => ?_) ?_; rotate_left; (· have c0 := hw'.c0; have c2 := hw'.c2; have cf := hw'.cf; have ct := hw'.ct; go_simp; rfl); (go_simp))
    (refine j_take 3 _ ?_ hs rfl rfl (by kernel_rfl) (by kernel_rfl) HJ.out (fun w' hw' => ?_) ?_; rotate_left; (· have c0 := hw'.c0; have c2 := hw'.c2; have cf := hw'.cf; have ct := hw'.ct; go_simp; rfl); (go_simp))
    (refine j_take 4 _ ?_ hs rfl rfl (by kernel_rfl) (by kernel_rfl) HJ.out (fun w' hw' => ?_) ?_; rotate_left; (· have c0 := hw'.c0; have c2 := hw'.c2; have cf := hw'.cf; have ct := hw'.ct; go_simp; rfl); (go_simp))
    (refine j_take 5 _ ?_ hs rfl rfl (by kernel_rfl) (by kernel_rfl) HJ.out (fun w' hw' => ?_) ?_; rotate_left; (· have c0 := hw'.c0; have c2 := hw'.c2; have cf := hw'.cf; have ct := hw'.ct; go_simp; rfl); (go_simp))
    (refine j_take 6 _ ?_ hs rfl rfl (by kernel_rfl) (by kernel_rfl) HJ.out (fun w' hw' => ?_) ?_; rotate_left; (· have c0 := hw'.c0; have c2 := hw'.c2; have cf := hw'.cf; have ct := hw'.ct; go_simp; rfl); (go_simp))
    (refine j_take 7 _ ?_ hs rfl rfl (by kernel_rfl) (by kernel_rfl) HJ.out (fun w' hw' => ?_) ?_; rotate_left; (· have c0 := hw'.c0; have c2 := hw'.c2; have cf := hw'.cf; have ct := hw'.ct; go_simp; rfl); (go_simp))
    (refine j_take 8 _ ?_ hs rfl rfl (by kernel_rfl) (by kernel_rfl) HJ.out (fun w' hw' => ?_) ?_; rotate_left; (· have c0 := hw'.c0; have c2 := hw'.c2; have cf := hw'.cf; have ct := hw'.ct; go_simp; rfl); (go_simp))
    (refine j_take 9 _ ?_ hs rfl rfl (by kernel_rfl) (by kernel_rfl) HJ.out (fun w' hw' => ?_) ?_; rotate_left; (· have c0 := hw'.c0; have c2 := hw'.c2; have cf := hw'.cf; have ct := hw'.ct; go_simp; rfl); (go_simp))
    (refine j_take 10 _ ?_ hs rfl rfl (by kernel_rfl) (by kernel_rfl) HJ.out (fun w' hw' => ?_) ?_; rotate_left; (· have c0 := hw'.c0; have c2 := hw'.c2; have cf := hw'.cf; have ct := hw'.ct; go_simp; rfl); (go_simp))

    refine j_one 11 _ rfl (by kernel_rfl) HJ.out ?_
    refine wpList_store_at rfl (ty := 42) (x := .tmp 4) (y := .tmp 57) rfl (g := w.heap.size) (j := 0) (cells := slc ⟨k, now, tz, decide (bd < tz)⟩) rfl rfl Z7.out (by kernel_rfl) (Nat.le_refl _) (slc_one _) ?_
    intro w8 hz8 on8
    rw [slc_put] at hz8
    have HJ8 := Lib.hid <| HJ.out.only on8 (by have := JN.out; omega) (by omega) (by have := JN.out; have := NN.out.2; omega)
    have Z8 := Lib.hid hz8
    have P8 := Lib.hid (P7.out.keep (S' := SS) (fun i hi => on8.block i (fun e => MS1.out (e ▸ hi))) (fun _ h => h) (fun i hi => by rw [on8.size]; exact P7.out.inS i hi))
    have F8 := Lib.hid (F7.out.after (only_fr on8) (Nat.le_refl _))
    clear hz8 on8 P7 F7 Z7 HJ
    go_wp2_with fail
    refine ⟨HJ8.out, ?_⟩
    refine j_one 12 _ rfl (by kernel_rfl) HJ8.out ?_
    go_wp2_with fail
    refine ⟨HJ8.out, ?_⟩
    refine j_one 13 _ rfl (by kernel_rfl) HJ8.out ?_
    go_wp2_with fail
    refine ⟨HJ8.out, j_done (by kernel_rfl) ?_⟩
    go_wp2_with fail
    have d0 := blk_cell Z8.out 0
    have d1 := blk_cell Z8.out 1
    have d2 := blk_cell Z8.out 2
    have d3 := blk_cell Z8.out 3
    simp only [slc] at d0 d1 d2 d3
    refine bodyPost_ret (v := .tuple #[.agg (slc ⟨k, now, tz, decide (bd < tz)⟩), .int .i64 bd, .bool true]) (by simp [results, Try.results34, go_sem, d0, d1, d2, d3, slc]) rfl ⟨?_, ?_, F8.out⟩
    · rw [strL_busy (by rw [← HBT.out]; simp only; omega), ← HBT.out, slOf_eq OKX.out HLF.out TO.out]; rfl
    · rw [strL_busy (by rw [← HBT.out]; simp only; omega)]
      exact ⟨_, P8.out.keep (fun _ _ => rfl) (fun k hk => (SI.out k hk).elim .inl (fun e => .inr ⟨e, P8.out.inS k hk⟩)) (fun k hk => hk.elim (fun e => Nat.lt_of_lt_of_le (SL.out k e) F8.out.size) (·.2))⟩
end Go.Proofs.Ytgdkmakmdomdbaa
