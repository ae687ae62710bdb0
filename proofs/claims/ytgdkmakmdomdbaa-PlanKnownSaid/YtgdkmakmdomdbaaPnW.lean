import Derived.Test.YtgdkmakmdomdbaaPnS
import Derived.Test.YtgdkmakmdomdbaaPnD
import Derived.Test.YtgdkmakmdomdbaaPnU
import Derived.Test.YtgdkmakmdomdbaaPnJ
set_option autoImplicit false
set_option linter.unusedVariables false
namespace Go.Proofs.Ytgdkmakmdomdbaa
open Go.RowKit Lk Pn
def slv (l : List Sl) : List Value := l.flatMap fun s => (slc s).toList
theorem slv_len (l : List Sl) : (slv l).length = l.length * 4 := by
  unfold slv; rw [List.length_flatMap]
  induction l with
  | nil => rfl
  | cons a l ih => rw [List.map_cons, List.sum_cons, List.length_cons, ih]; simp only [slc, List.length_cons, List.length_nil]; omega
theorem slv_snoc (l : List Sl) (s : Sl) : slv (l ++ [s]) = slv l ++ (slc s).toList := by simp [slv]
theorem Try.und45 : Try.prog.underlying 45 = some (.slice 42) := by kernel_rfl
theorem slot_info : (Try.prog.info? 42).map (fun i => (i.zero.map (fun z => z.cells.size), i.size, i.bytes)) = some (some 4, 4, 32) := by kernel_rfl
theorem slc_one' (s : Sl) : ∀ u ∈ (slc s).toList, u.oneCell' = true := by
  intro u hu
  simp only [slc, List.mem_cons, List.not_mem_nil, or_false] at hu
  rcases hu with rfl | rfl | rfl | rfl <;> rfl
theorem slc_cells {w : World} {g : Nat} {s : Sl} (h : w.heap[g]? = some (.cells (slc s) 42 (0, 0))) : ∀ j u, (slc s).toList[j]? = some u → w.cell? ((⟨g, 0, none⟩ : Addr).add j) = some u := by
  intro j u hu
  rw [Addr.add_lit]
  simp only [World.cell?, h, Nat.zero_add]
  simpa using hu
/-- what Until hands back -/
def UntP (B : Nat) (S : Nat → Prop) (p lb cap : Nat) (st : Pl) (tick : Int) (w : World) (e : Ending) (w' : World) : Prop :=
  ∃ v vs' S', e = .returned v ∧ w'.ownsRow B 42 4 v (untilP st tick).2.length (slv (untilP st tick).2) ∧ PAx cY w' S' p lb cap vs' (untilP st tick).1 ∧ (∀ k, S' k → S k ∨ w.heap.size ≤ k) ∧ (∀ g, v.ownBlock = some g → ¬ S' g) ∧ Fr S w w'
theorem own_form {w : World} {B E sz n : Nat} {v : Value} {xs : List Value} (h : w.ownsRow B E sz v n xs) : ∃ a cap, v = .slice a n cap ∧ n ≤ cap ∧ cap ≤ 9223372036854775807 := by
  rcases h.2 with ⟨rfl, rfl⟩ | ⟨g, cap, cur, rfl, _, _, h1, h2, _⟩
  · exact ⟨none, 0, rfl, Nat.le_refl _, by omega⟩
  · exact ⟨_, _, rfl, h1, by unfold maxLen at h2; omega⟩
def lenV : Value → Nat
  | .slice _ n _ => n
  | _ => 0
/-- S and whatever is new -/
def Sn (S : Nat → Prop) (w : World) : Nat → Prop := fun k => S k ∨ w.heap.size ≤ k
theorem Fr.old {S : Nat → Prop} {w w' : World} (h : Fr (Sn S w) w w') : Fr S w w' := h.weaken fun k hk e => e.elim id fun e => by omega
theorem own_keep {w w' : World} {B E sz n : Nat} {v : Value} {xs : List Value} (h : w.ownsRow B E sz v n xs) (e : ∀ g, v.ownBlock = some g → w'.heap[g]? = w.heap[g]?) : w'.ownsRow B E sz v n xs := by
  refine ⟨h.1, ?_⟩
  rcases h.2 with ⟨rfl, h0⟩ | ⟨g, cap, cur, rfl, hB, hb, h3⟩
  · exact .inl ⟨rfl, h0⟩
  · exact .inr ⟨g, cap, cur, rfl, hB, (e g rfl).trans hb, h3⟩
/-- the loop of Until -/
structure UR (FU B : Nat) (S : Nat → Prop) (p lb cap : Nat) (M : Nat) (T : Int) (st : Pl) (w wr : World) (v : Value) (k : Nat) (st' : Pl) (outs : List Sl) (SS : Nat → Prop) (vs : List Value) : Prop where
  k1 : k ≤ FU
  own : wr.ownsRow B 42 4 v k (slv outs)
  pa : PAx cY wr SS p lb cap vs st'
  si : ∀ i, SS i → Sn S w i
  ns : ∀ g, v.ownBlock = some g → ¬ SS g
  fr : Fr (Sn S w) w wr
  inv : Inv M st'
  e1 : (untilK T FU st).1 = (untilK T (FU - k) st').1
  e2 : (untilK T FU st).2 = outs ++ (untilK T (FU - k) st').2
theorem run_lss (a b : Int) (B : Bool) (hB : decide (a < b) = B) (w : World) : (binOp .lss 3 (.int .i64 a) (.int .i64 b)).run Try.prog w = .ok (.bool B) w := by
  subst hB; go_simp
theorem untilK_end {T : Int} {f : Nat} {st : Pl} (h : f = 0 ∨ T ≤ st.now) : untilK T f st = (st, []) := by
  cases f with
  | zero => rfl
  | succ f =>
    rcases h with h | h
    · omega
    · unfold untilK; rw [if_pos h]
theorem untilK_none {T : Int} {f : Nat} {st : Pl} {l : List Ln} (h : ¬ T ≤ st.now) (e : strL st.l st.now T = (l, none)) : untilK T (f + 1) st = (⟨l, T⟩, []) := by
  unfold untilK; rw [if_neg h, e]
theorem untilK_some {T : Int} {f : Nat} {st : Pl} {l : List Ln} {s : Sl} {due : Int} (h : ¬ T ≤ st.now) (e : strL st.l st.now T = (l, some (s, due))) :
    untilK T (f + 1) st = ((untilK T f (doneP l (cutS T due s))).1, cutS T due s :: (untilK T f (doneP l (cutS T due s))).2) := by
  rw [untilK, if_neg h, e]
theorem UR.fin {FU B : Nat} {S : Nat → Prop} {p lb cap M : Nat} {tick T : Int} {st : Pl} {w wr w' : World} {v : Value} {k : Nat} {st' st2 : Pl} {outs : List Sl} {SS TT : Nat → Prop} {vs vs2 : List Value} (h : UR FU B S p lb cap M T st w wr v k st' outs SS vs) (hT : untilP st tick = untilK T FU st)
    (e : untilK T (FU - k) st' = (st2, [])) (pa : PAx cY w' TT p lb cap vs2 st2) (ti : ∀ i, TT i → Sn S w i) (nt : ∀ g, v.ownBlock = some g → ¬ TT g) (f : Fr (Sn S w) w w') (ow : ∀ g, v.ownBlock = some g → w'.heap[g]? = wr.heap[g]?) : UntP B S p lb cap st tick w (.returned v) w' := by
  have e2 := h.e2
  have e1 := h.e1
  rw [e] at e1 e2
  simp only [List.append_nil] at e1 e2
  refine ⟨v, vs2, TT, rfl, ?_, by rw [hT, e1]; exact pa, ti, nt, f.old⟩
  rw [hT, e2]
  have := own_keep h.own ow
  have hl := this.1
  rw [slv_len] at hl
  rw [show outs.length = k by omega]
  exact this
theorem UR.blk {FU B : Nat} {S : Nat → Prop} {p lb cap M : Nat} {T : Int} {st : Pl} {w wr w1 : World} {v : Value} {k : Nat} {st' : Pl} {outs : List Sl} {SS : Nat → Prop} {vs : List Value} (h : UR FU B S p lb cap M T st w wr v k st' outs SS vs) {g : Nat} (hg : v.ownBlock = some g) :
    g < wr.heap.size ∧ ¬ Sx SS wr w1 g ∧ B ≤ g := by
  have := h.own.lt g hg
  exact ⟨this.2, fun e => e.elim (h.ns g hg) fun e => by omega, this.1⟩
theorem UR.si' {FU B : Nat} {S : Nat → Prop} {p lb cap M : Nat} {T : Int} {st : Pl} {w wr w1 : World} {v : Value} {k : Nat} {st' : Pl} {outs : List Sl} {SS : Nat → Prop} {vs : List Value} (h : UR FU B S p lb cap M T st w wr v k st' outs SS vs) : ∀ i, Sx SS wr w1 i → Sn S w i :=
  fun i e => e.elim (h.si i) fun e => .inr (Nat.le_trans h.fr.size e.1)
/-- one stretch more -/
theorem UR.next {FU B : Nat} {S : Nat → Prop} {p lb cap M : Nat} {T due : Int} {st : Pl} {w wr w1 w3 w5 : World} {v v' : Value} {k : Nat} {l lq : List Ln} {now : Int} {outs : List Sl} {SS : Nat → Prop} {vs vs3 : List Value} {s : Sl} {ob ob2 : Obj} (h : UR FU B S p lb cap M T st w wr v k ⟨l, now⟩ outs SS vs)
    (hk : k < FU) (hd : ¬ T ≤ now) (ho : strL l now T = (lq, some (s, due))) (g : Fr SS wr w1) (pa3 : PAx cY w3 (Sx (Sx SS wr w1) (w1.alloc ob) w3) p lb cap vs3 (doneP lq (cutS T due s))) (g3 : Fr (Sx SS wr w1) (w1.alloc ob) w3)
    (gr : (w3.alloc ob2).grownBy w5 v.ownBlock) (ow : w5.ownsRow B 42 4 v' (k + 1) (slv outs ++ (slc (cutS T due s)).toList)) (hat : v'.ownBlock = v.ownBlock ∨ v'.ownBlock = some (w3.alloc ob2).heap.size) (inv : Inv M (doneP lq (cutS T due s))) (hB : w.heap.size ≤ B) :
    UR FU B S p lb cap M T st w w5 v' (k + 1) (doneP lq (cutS T due s)) (outs ++ [cutS T due s]) (Sx (Sx SS wr w1) (w1.alloc ob) w3) vs3 := by
  have z1 := g.size
  have z3 := g3.size
  rw [al_size] at z3
  have z5 := gr.size
  rw [al_size] at z5
  have nb : ∀ b, v.ownBlock = some b → ¬ Sx (Sx SS wr w1) (w1.alloc ob) w3 b := fun b hb e => by
    obtain ⟨a1, a2, _⟩ := h.blk (w1 := w1) hb
    exact e.elim a2 fun e => by rw [al_size] at e; omega
  have oth : ∀ i, Sx (Sx SS wr w1) (w1.alloc ob) w3 i → w5.heap[i]? = w3.heap[i]? := fun i hi => (gr.block i (by rw [al_size]; have := pa3.inS i hi; omega) (fun e => nb i e.symm hi)).trans (Below.heap_alloc _ _ _ (pa3.inS i hi))
  have fe : FU - k = (FU - (k + 1)) + 1 := by omega
  have e1 := h.e1
  have e2 := h.e2
  rw [fe, untilK_some (st := ⟨l, now⟩) hd ho] at e1 e2
  have si3 : ∀ i, Sx (Sx SS wr w1) (w1.alloc ob) w3 i → Sn S w i := fun i e => e.elim (fun e => h.si' i e) fun e => .inr (by have := e.1; rw [al_size] at this; have := h.fr.size; omega)
  refine ⟨by omega, by rw [slv_snoc]; exact ow, pa3.keep oth (fun _ h => h) (fun i hi => by have := pa3.inS i hi; omega), si3, fun b hb => ?_, ?_, inv, e1, by rw [e2, List.append_assoc]; rfl⟩
  · rcases hat with e | e
    · exact nb b (e ▸ hb)
    · rw [e] at hb
      obtain rfl : (w3.alloc ob2).heap.size = b := Option.some.inj hb
      intro hi
      have := pa3.inS _ hi
      rw [al_size] at this; omega
  · refine h.fr.trans' ((g.weaken fun i _ e => h.si i e).trans' ?_)
    refine (Fr.of_below ((Below.refl _ w1).alloc (Nat.le_refl _) ob)).trans' ((g3.weaken fun i _ e => h.si' i e).trans' ?_)
    refine (Fr.of_below ((Below.refl _ w3).alloc (Nat.le_refl _) ob2)).trans' ?_
    exact Fr.grown (Fr.refl _ _) gr fun b hb => .inr (by have := (h.blk (w1 := w1) hb).2.2; have := h.own.lt b hb; exact Nat.le_trans (hB) this.1)
set_option maxRecDepth 100000 in
set_option maxHeartbeats 4000000 in
theorem until_walk (M : Nat) (hM : M ≤ 4194304) (hM1 : 1 ≤ M) (p lb cap : Nat) (vs : List Value) (S : Nat → Prop) (st : Pl) (tick : Int) (w : World) (h : PAx cY w S p lb cap vs st) (inv : Inv M st) :
    Calls Try.prog 18 #[.pointer (some ⟨p, 0, none⟩), .int .i64 tick] w (UntP w.heap.size S p lb cap st tick w) := by
  obtain ⟨I, Z, hi, hz, hsz, hby, hzs⟩ := info5 slot_info
  obtain ⟨T, hT⟩ : ∃ T, T = min tick 1152921504606846976 := ⟨_, rfl⟩
  have mf : (if 1152921504606846976 < tick then 1152921504606846976 else tick) = T := by rw [hT]; split <;> omega
  have T1 : T ≤ 1152921504606846976 := by omega
  obtain ⟨FU, hFU⟩ : ∃ FU, FU = 65536 := ⟨_, rfl⟩
  have HT : Hid (untilP st tick = untilK T FU st) := Lib.hid (by simp only [untilP, FAR, hFU, hT])
  have HF := Lib.hid hFU
  have h0 : UR FU w.heap.size S p lb cap M T st w w (.slice none 0 0) 0 st [] S vs := ⟨by omega, World.ownsRow_nil _ _ _ _, h, fun i hi => .inl hi, (fun g hg => by cases hg), Fr.refl _ _, inv, rfl, rfl⟩
  have H0 := Lib.hid h0
  have SL := Lib.hid h.inS
  clear h inv hT h0 hFU
  go_enter Try.func18, Try.ntmps18
  go_wp2_with fail
  go_loopw [5] (fun v wr => ∃ k st' outs SS vs', UR FU w.heap.size S p lb cap M T st w wr v k st' outs SS vs') (fun v _ => FU - lenV v)
  case atStart => exact ⟨0, st, [], S, vs, H0.out⟩
  case round =>
    obtain ⟨k, ⟨l, now⟩, outs, SS, vs', hu⟩ := hrel
    obtain ⟨a, c, rfl, q1, q2⟩ := own_form hu.own
    have HU := Lib.hid hu
    have p1 := hu.pa.p1
    have fp := hu.pa.fp 1
    have pl := hu.pa.plt
    have k1 : k ≤ 65536 := by have := hu.k1; have := HF.out; omega
    simp only at p1
    clear hu H0
    by_cases hd : T ≤ now
    · have hE := Lib.hid (untilK_end (f := FU - k) (st := ⟨l, now⟩) (.inr hd))
      by_cases hk : k = 65536
      · go_upto_region 15 with fail
        obtain ⟨C, hC⟩ : ∃ C : Int, C = 65536 := ⟨_, rfl⟩
        rw [← hC]
        have hk2 : decide ((k : Int) < C) = false := decide_eq_false (by omega)
        clear hC hk k1
        go_wp2_with fail
        go_ret
        exact HU.out.fin HT.out hE.out HU.out.pa HU.out.si HU.out.ns HU.out.fr (fun _ _ => rfl)
      · go_upto_region 15 with fail
        obtain ⟨C, hC⟩ : ∃ C : Int, C = 65536 := ⟨_, rfl⟩
        rw [← hC]
        have hk2 : (k : Int) < C := by omega
        have mf2 : (if now < T then T else now) = now := if_neg (by omega)
        clear hk k1 hC
        go_wp2_with fail
        have P9 := Lib.hid (HU.out.pa.setNow now)
        go_ret
        exact HU.out.fin HT.out hE.out P9.out HU.out.si HU.out.ns (HU.out.fr.trans' (Fr.set (Fr.refl _ _) (p := ⟨p, 1, none⟩) (HU.out.si _ HU.out.pa.sp) _)) (fun g hg => Deep.blk_setCell_other _ _ _ _ (fun e => HU.out.ns g hg (e ▸ HU.out.pa.sp)))
    · by_cases hk : k = 65536
      · have hE := Lib.hid (untilK_end (T := T) (f := FU - k) (st := ⟨l, now⟩) (.inl (by have := HF.out; omega)))
        have hk2 : ((k : Int) == 65536) = true := by rw [beq_iff_eq]; omega
        clear hk
        go_wp2_with fail
        go_ret
        exact HU.out.fin HT.out hE.out HU.out.pa HU.out.si HU.out.ns HU.out.fr (fun _ _ => rfl)
      · have hk2 : ((k : Int) == 65536) = false := by rw [beq_eq_false_iff_ne]; omega
        have n0 := HU.out.inv.n0
        simp only at n0
        go_wp2_with fail
        refine (str_walk M hM hM1 p lb cap vs' SS ⟨l, now⟩ T _ HU.out.pa HU.out.inv (by omega) T1 (by simp only; omega)).mono ?_
        rintro e w1 ⟨rfl, ⟨vs1, q⟩, g⟩
        simp only at q ⊢
        obtain ⟨⟨lq, o⟩, ho⟩ : ∃ x, x = strL l now T := ⟨_, rfl⟩
        rw [← ho] at q ⊢
        have G1 := Lib.hid g
        have Q1 := Lib.hid q
        have HO := Lib.hid ho
        have p1 := q.p1
        have fp := q.fp 1
        have pl := q.plt
        simp only at p1
        clear q g ho
        cases o with
        | none =>
          simp only [strV, slc]
          go_upto_region 15 with fail
          obtain ⟨C, hC⟩ : ∃ C : Int, C = 65536 := ⟨_, rfl⟩
          rw [← hC]
          have hk3 : (k : Int) < C := by omega
          have mf2 : (if now < T then T else now) = T := if_pos (by omega)
          have KF := Lib.hid (show k < FU by have := HF.out; omega)
          have HD := Lib.hid (show ¬ T ≤ now by omega)
          clear hC hk hk2 k1
          go_wp2_with fail
          have bB : Below (w1.setCell ⟨p, 1, none⟩ (.int .i64 T)).heap.size (w1.setCell ⟨p, 1, none⟩ (.int .i64 T)) ((w1.setCell ⟨p, 1, none⟩ (.int .i64 T)).alloc (.cells #[.int .i64 0, .int .i64 0, .int .i64 0, .bool false] 42)) := (Below.refl _ _).alloc (Nat.le_refl _) _
          have P9 := Lib.hid ((Q1.out.setNow T).below bB)
          have hE := untilK_none (f := FU - (k + 1)) (st := ⟨l, now⟩) (by have := HD.out; simp only; omega) HO.out.symm
          rw [show FU - (k + 1) + 1 = FU - k by have := KF.out; omega] at hE
          go_ret
          exact HU.out.fin HT.out hE P9.out HU.out.si' (fun b hb => (HU.out.blk (w1 := w1) hb).2.1) (Fr.then ((HU.out.fr.trans' (G1.out.weaken fun i _ e => HU.out.si i e)).trans' (Fr.set (Fr.refl _ _) (p := ⟨p, 1, none⟩) (HU.out.si' _ Q1.out.sp) _)) bB)
            (fun b hb => (bB.block b (by rw [size_setCell]; exact Nat.lt_of_lt_of_le (HU.out.blk (w1 := w1) hb).1 G1.out.size)).trans ((Deep.blk_setCell_other _ _ _ _ (fun e => (HU.out.blk (w1 := w1) hb).2.1 (by rw [show b = p from e]; exact Q1.out.sp))).trans (G1.out.block b (HU.out.blk (w1 := w1) hb).1 (HU.out.ns b hb))))
        | some sd =>
          obtain ⟨⟨stk, fr, tz, lt⟩, due⟩ := sd
          obtain ⟨kk, x, r, ws, ok⟩ := str_some HU.out.inv.ln hM1 (by simp only; omega) HO.out.symm
          obtain rfl : stk = (kk : Int) := ok.tk
          simp only [strV, slc]
          by_cases hc : T < tz
          · have hcut : cutS T due ⟨kk, fr, tz, lt⟩ = ⟨kk, fr, T, (decide (due < T))⟩ := by unfold cutS; rw [if_pos (by simp only; omega)]
            have HC := Lib.hid hcut
            have bA : Below w1.heap.size w1 (w1.alloc (.cells #[.int .i64 kk, .int .i64 fr, .int .i64 T, .bool (decide (due < T))] 42)) := (Below.refl _ _).alloc (Nat.le_refl _) _
            have PA := Q1.out.below bA
            have xl := ok.ln x (List.mem_of_getElem? ok.hx)
            have o1 := ok.fr0
            have o2 := ok.fr2 (by omega)
            have o3 := ok.to0
            have o4 := ok.to1
            have x1 := xl.lf1
            simp only at o1 o2 o3 o4
            have E := done_walk p lb cap vs1 (Sx SS wr w1) lq now kk x fr T (decide (due < T)) _ PA ok.hx (by omega) (by omega) (by omega) xl.lf0 xl.lf1 (by rw [ok.hw]; simp) (fun r hr => (xl.rn r hr).mono (by have := xl.nx1; simp only at this; omega)) (Nat.le_trans (wl_le xl) hM)
            have IV : Hid (Inv M (doneP lq (cutS T due ⟨kk, fr, tz, lt⟩))) := Lib.hid (by
              rw [hcut]
              exact ⟨by simp only [doneP]; omega, by simp only [doneP]; omega, ok.done (tz := T) (by simp only; omega) (by simp only; omega)⟩)
            have E1 := Lib.hid E
            have PZ := Lib.hid (blk_lt (Deep.blk_alloc_new w1 (.cells #[.int .i64 kk, .int .i64 fr, .int .i64 T, .bool (decide (due < T))] 42)))
            have KF := Lib.hid (show k < FU by have := HF.out; omega)
            have HD := Lib.hid (show ¬ T ≤ now by omega)
            clear bA PA xl o1 o2 o3 o4 x1 E ok hcut hk hk2
            go_wp2_with fail
            refine E1.out.mono ?_
            rintro e w3 ⟨rfl, ⟨vs3, q3⟩, g3⟩
            have nS : ¬ Sx SS wr w1 w1.heap.size := fun e => by have := Q1.out.inS _ e; omega
            have hs := (g3.block w1.heap.size PZ.out nS).trans (Deep.blk_alloc_new w1 _)
            have d0 := blk_cell hs 0
            have d1 := blk_cell hs 1
            have d2 := blk_cell hs 2
            have d3 := blk_cell hs 3
            have G3 := Lib.hid g3
            have Q3 : Hid (PAx cY w3 (Sx (Sx SS wr w1) (w1.alloc (.cells #[.int .i64 kk, .int .i64 fr, .int .i64 T, .bool (decide (due < T))] 42)) w3) p lb cap vs3 (doneP lq (cutS T due ⟨kk, fr, tz, lt⟩))) := Lib.hid (by rw [HC.out]; exact q3)
            have O3 := Lib.hid (own_keep (w' := w3) HU.out.own (fun b hb => by
              obtain ⟨u1, u2, _⟩ := HU.out.blk (w1 := w1) hb
              have z1 := G1.out.size
              exact (G3.out.block b (by rw [al_size]; omega) u2).trans ((Below.heap_alloc _ _ _ (by omega)).trans (G1.out.block b u1 (HU.out.ns b hb)))))
            have zb : w.heap.size ≤ w3.heap.size := by have := HU.out.fr.size; have := G1.out.size; have := G3.out.size; rw [al_size] at this; omega
            clear nS hs g3 q3 E1 p1 fp pl
            go_wp2_with (refine wpList_append_own_at _ rfl (.tmp 45) (.tmp 47) 45 rfl w.heap.size 42 I Z 4 32 Try.und45 hi hz hsz hby hzs (by decide) (.slice a k c) k (slv outs) rfl (O3.out.alloc _) ⟨w3.heap.size, 0, none⟩ 1 1 (slc ⟨kk, fr, T, (decide (due < T))⟩).toList rfl rfl (slc_cells (Deep.blk_alloc_new w3 _)) (slc_one' _) (by simp only [maxLen]; omega) (by omega) (by rw [al_size]; omega) ?_; intro v5 w5 ow gr _ hat; have NX := Lib.hid (HU.out.next KF.out (by have := HD.out; omega) HO.out.symm G1.out Q3.out G3.out gr (by rw [HC.out]; exact ow) hat IV.out (Nat.le_refl _)); obtain ⟨a5, c5, rfl, _⟩ := own_form ow; clear ow gr hat)
            go_roundw
            case rel => exact ⟨k + 1, _, _, _, _, NX.out⟩
            case measure => simp [lenV]; have := KF.out; omega
          · have hcut : cutS T due ⟨kk, fr, tz, lt⟩ = ⟨kk, fr, tz, lt⟩ := by unfold cutS; rw [if_neg (by simp only; omega)]
            have HC := Lib.hid hcut
            have bA : Below w1.heap.size w1 (w1.alloc (.cells #[.int .i64 kk, .int .i64 fr, .int .i64 tz, .bool lt] 42)) := (Below.refl _ _).alloc (Nat.le_refl _) _
            have PA := Q1.out.below bA
            have xl := ok.ln x (List.mem_of_getElem? ok.hx)
            have o1 := ok.fr0
            have o2 := ok.fr2 (by omega)
            have o3 := ok.to0
            have o4 := ok.to1
            have x1 := xl.lf1
            simp only at o1 o2 o3 o4
            have E := done_walk p lb cap vs1 (Sx SS wr w1) lq now kk x fr tz lt _ PA ok.hx (by omega) (by omega) (by omega) xl.lf0 xl.lf1 (by rw [ok.hw]; simp) (fun r hr => (xl.rn r hr).mono (by have := xl.nx1; simp only at this; omega)) (Nat.le_trans (wl_le xl) hM)
            have IV : Hid (Inv M (doneP lq (cutS T due ⟨kk, fr, tz, lt⟩))) := Lib.hid (by
              rw [hcut]
              exact ⟨by simp only [doneP]; omega, by simp only [doneP]; omega, ok.done (tz := tz) (by simp only; omega) (by simp only; omega)⟩)
            have E1 := Lib.hid E
            have PZ := Lib.hid (blk_lt (Deep.blk_alloc_new w1 (.cells #[.int .i64 kk, .int .i64 fr, .int .i64 tz, .bool lt] 42)))
            have KF := Lib.hid (show k < FU by have := HF.out; omega)
            have HD := Lib.hid (show ¬ T ≤ now by omega)
            clear bA PA xl o1 o2 o3 o4 x1 E ok hcut hk hk2
            go_wp2_with fail
            refine E1.out.mono ?_
            rintro e w3 ⟨rfl, ⟨vs3, q3⟩, g3⟩
            have nS : ¬ Sx SS wr w1 w1.heap.size := fun e => by have := Q1.out.inS _ e; omega
            have hs := (g3.block w1.heap.size PZ.out nS).trans (Deep.blk_alloc_new w1 _)
            have d0 := blk_cell hs 0
            have d1 := blk_cell hs 1
            have d2 := blk_cell hs 2
            have d3 := blk_cell hs 3
            have G3 := Lib.hid g3
            have Q3 : Hid (PAx cY w3 (Sx (Sx SS wr w1) (w1.alloc (.cells #[.int .i64 kk, .int .i64 fr, .int .i64 tz, .bool lt] 42)) w3) p lb cap vs3 (doneP lq (cutS T due ⟨kk, fr, tz, lt⟩))) := Lib.hid (by rw [HC.out]; exact q3)
            have O3 := Lib.hid (own_keep (w' := w3) HU.out.own (fun b hb => by
              obtain ⟨u1, u2, _⟩ := HU.out.blk (w1 := w1) hb
              have z1 := G1.out.size
              exact (G3.out.block b (by rw [al_size]; omega) u2).trans ((Below.heap_alloc _ _ _ (by omega)).trans (G1.out.block b u1 (HU.out.ns b hb)))))
            have zb : w.heap.size ≤ w3.heap.size := by have := HU.out.fr.size; have := G1.out.size; have := G3.out.size; rw [al_size] at this; omega
            clear nS hs g3 q3 E1 p1 fp pl
            go_wp2_with (refine wpList_append_own_at _ rfl (.tmp 45) (.tmp 47) 45 rfl w.heap.size 42 I Z 4 32 Try.und45 hi hz hsz hby hzs (by decide) (.slice a k c) k (slv outs) rfl (O3.out.alloc _) ⟨w3.heap.size, 0, none⟩ 1 1 (slc ⟨kk, fr, tz, lt⟩).toList rfl rfl (slc_cells (Deep.blk_alloc_new w3 _)) (slc_one' _) (by simp only [maxLen]; omega) (by omega) (by rw [al_size]; omega) ?_; intro v5 w5 ow gr _ hat; have NX := Lib.hid (HU.out.next KF.out (by have := HD.out; omega) HO.out.symm G1.out Q3.out G3.out gr (by rw [HC.out]; exact ow) hat IV.out (Nat.le_refl _)); obtain ⟨a5, c5, rfl, _⟩ := own_form ow; clear ow gr hat)
            go_roundw
            case rel => exact ⟨k + 1, _, _, _, _, NX.out⟩
            case measure => simp [lenV]; have := KF.out; omega
end Go.Proofs.Ytgdkmakmdomdbaa
