import Derived.Test.YtdngkeefbpffcaaPwG
set_option autoImplicit false
set_option linter.unusedVariables false
namespace Go.Proofs.Ytdngkeefbpffcaa
open Go.RowKit Lk Pl
theorem Try.und67 : Try.prog.underlying 67 = some (.slice 4) := by kernel_rfl
theorem bool_info4 : (Try.prog.info? 4).map (fun i => (i.zero.map (·.cells), i.size, i.bytes)) = some (some #[.bool false], 1, 1) := by kernel_rfl
theorem made_bools (n : Nat) : madeCells #[.bool false] (n * 1) = ((List.range n).map fun y => Value.bool ((fun _ => false) y)).toArray := by
  apply Array.ext
  · simp [size_madeCells]
  · intro i h1 h2
    unfold madeCells
    simp [Nat.mod_one]
/-- what stands in memory between two rounds of the document's Merge -/
structure Rm (W : World) (C gt n : Nat) (ao : Option Addr) (O : List Nat) (T : Nat → Bool) (v : Value) (L : List Pt) (wr : World) : Prop where
  b : Below W.heap.size W wr
  o : ∀ g, ao = some g → g = ⟨g.block, 0, none⟩ ∧ W.heap.size ≤ g.block ∧ g.block < gt ∧ ∀ (j x : Nat), O[j]? = some x → wr.cell? ⟨g.block, j, none⟩ = some (.int .i64 (x : Int))
  t : Tb wr gt n T
  r : wr.ownsRow C 28 5 v L.length (plv L)
  g1 : W.heap.size ≤ gt
  hC : gt < C
  z : C ≤ wr.heap.size
theorem Rm.gf {W : World} {C gt n : Nat} {ao : Option Addr} {O : List Nat} {T T' : Nat → Bool} {v : Value} {L : List Pt} {wr w' : World} (h : Rm W C gt n ao O T v L wr) (f : Gf wr.heap.size gt wr w') (t : Tb w' gt n T') : Rm W C gt n ao O T' v L w' := by
  have z := h.z
  have hC := h.hC
  have g1 := h.g1
  refine ⟨⟨f.os.trans h.b.os, f.tape.trans h.b.tape, f.output.trans h.b.output, Nat.le_trans h.b.size f.size, fun k hk => (f.block k (by omega) (by omega)).trans (h.b.block k hk)⟩, fun g hg => ?_, t, rs_own h.r fun k hk => f.block k (h.r.lt k hk).2 (by have := (h.r.lt k hk).1; omega), g1, hC, Nat.le_trans z f.size⟩
  obtain ⟨e1, e2, e3, e4⟩ := h.o g hg
  exact ⟨e1, e2, e3, fun j x hj => (f.at (by omega) (by omega) j).trans (e4 j x hj)⟩
theorem Rm.app {W : World} {C gt n : Nat} {ao : Option Addr} {O : List Nat} {T : Nat → Bool} {v v' : Value} {L : List Pt} {wr w' : World} {ob : Obj} {q : Pt} (h : Rm W C gt n ao O T v L wr) (ow : w'.ownsRow C 28 5 v' (L.length + 1) (plv L ++ ptv q)) (gr : (wr.alloc ob).grownBy w' v.ownBlock) : Rm W C gt n ao O T v' (L ++ [q]) w' := by
  have z := h.z
  have hC := h.hC
  have g1 := h.g1
  have bl : ∀ e, e < C → w'.heap[e]? = wr.heap[e]? := fun e he => (gr.block e (by simp; omega) (fun u => by have := (h.r.lt e u.symm).1; omega)).trans (Deep.blk_alloc_lt wr ob e (by omega))
  have zs := gr.size
  simp only [szN] at zs
  refine ⟨⟨gr.os.trans h.b.os, gr.tape.trans h.b.tape, gr.output.trans h.b.output, by have := h.b.size; omega, fun e he => (bl e (by omega)).trans (h.b.block e he)⟩, fun g hg => ?_, (bl gt hC).trans h.t, ?_, g1, hC, by omega⟩
  · obtain ⟨e1, e2, e3, e4⟩ := h.o g hg
    exact ⟨e1, e2, e3, fun j x hj => (World.cell?_of_block (a := ⟨g.block, j, none⟩) (bl _ (by simp only; omega))).trans (e4 j x hj)⟩
  · rw [List.length_append, ← plv_snoc]; exact ow
theorem getPt2 {l : List Pt} {i : Nat} {p : Pt} (hp : l[i]? = some p) : l.getD i pt0 = p := by rw [List.getD_eq_getElem?_getD, hp]; rfl
theorem flv_app (P Q : List Nat) : flv P ++ flv Q = flv (P ++ Q) := by unfold flv; simp
theorem Tb.low {w w' : World} {g n C : Nat} {T : Nat → Bool} (h : Tb w g n T) (b : Below C w w') (hg : g < C) : Tb w' g n T := (b.block _ hg).trans h
theorem Rm.box {W : World} {C gt n kp : Nat} {ao : Option Addr} {O : List Nat} {T : Nat → Bool} {v : Value} {L : List Pt} {wr : World} (h : Rm W C gt n ao O T v L wr) (hk : gt < kp) (nb : ∀ g, v.ownBlock = some g → g < kp) (x : Value) (o : Nat) : Rm W C gt n ao O T v L (wr.setCell ⟨kp, o, none⟩ x) := by
  have g1 := h.g1
  refine ⟨h.b.setCell (by simp only; omega) x, fun g hg => ?_, ?_, rs_own h.r fun k hk' => Deep.blk_setCell_other _ _ _ _ (by have := nb k hk'; simp only; omega), g1, h.hC, by simpa using h.z⟩
  · obtain ⟨e1, e2, e3, e4⟩ := h.o g hg
    exact ⟨e1, e2, e3, fun j y hj => (World.cell?_of_block (a := ⟨g.block, j, none⟩) (Deep.blk_setCell_other _ _ _ _ (by simp only; omega))).trans (e4 j y hj)⟩
  · unfold Tb; rw [Deep.blk_setCell_other _ _ _ _ (by simp only; omega)]; exact h.t
theorem lft_all (O : List Nat) : lft O (fun _ => false) 0 = O := by unfold lft; simp
set_option maxRecDepth 100000 in
set_option maxHeartbeats 8000000 in
theorem rmerge_walk (a : Option Addr) (n cap : Nat) (l : List Pt) (m s : Nat) (W : World) (h : Sp W a n cap l) (hn : n ≤ 1048575) :
    Calls Try.prog 22 #[.slice a n cap, .float .f64 m, .float .f64 s] W
      (fun e w' => ∃ v L, e = .returned v ∧ w'.ownsRow W.heap.size 28 5 v L.length (plv L) ∧ Ms l L (mergeL l m s n (ordL (ltI l) n)) ∧ Below W.heap.size W w') := by
  have SP := Lib.hid h
  clear h
  obtain ⟨I, hi, hzz⟩ := Option.map_eq_some_iff.1 bool_info4
  simp only [Prod.mk.injEq] at hzz
  obtain ⟨z, hz, hzc⟩ := Option.map_eq_some_iff.1 hzz.1
  have hmk : ∀ w : World, (Instr.makeSlice 67 (.int .i64 (n : Int)) (.int .i64 (n : Int))).run Try.prog w = .ok (.slice (some ⟨w.heap.size, 0, none⟩) n n) (w.alloc (.cells ((List.range n).map fun y => Value.bool ((fun _ => false) y)).toArray 4)) := fun w => by
    have := run_make (P := Try.prog) w 67 4 I z Try.und67 hi hz .i64 .i64 n n (by omega) (Int.le_refl _) (by rw [hzz.2.2]; omega) (by omega)
    rw [hzc, hzz.2.1] at this
    rw [← made_bools]
    simpa using this
  clear hzz hzc hz hi
  generalize hmz : ((List.range n).map fun y => Value.bool ((fun _ => false) y)).toArray = mz at hmk
  have HMZ := Lib.hid hmz
  clear hmz
  go_enter Try.func22, Try.ntmps22
  go_wp2_with fail
  refine (rorder_walk a n cap l W SP.out (by omega)).mono ?_
  rintro e w1 ⟨v7, rfl, ow1, hb1⟩
  obtain ⟨ao, co, rfl, c1, c2, ol, onil, ocl⟩ := int_own ow1
  have OC := Lib.hid ocl
  have ON := Lib.hid onil
  have B1 := Lib.hid hb1
  clear ow1 hb1 ocl onil ol
  go_upto_region 3 with fail
  obtain ⟨gt, hgt⟩ : ∃ gt, gt = w1.heap.size := ⟨_, rfl⟩
  refine wp_forget (fun wx => Rm W (gt + 1) gt n ao (ordL (ltI l) n) (fun _ => false) (.slice none 0 0) [] wx) ⟨?_, fun g hg => ?_, ?_, World.ownsRow_nil _ _ _ _, ?_, ?_, ?_⟩ ?_
  · exact B1.out.trans ((al_below w1 _).mono B1.out.size)
  · obtain ⟨e1, e2, e3, e4⟩ := OC.out g hg
    exact ⟨e1, e2, by omega, fun j x hj => ((al_below w1 _).cell (p := ⟨g.block, j, none⟩) e3).trans (e4 j x hj)⟩
  · unfold Tb; rw [HMZ.out, hgt]; exact Deep.blk_alloc_new _ _
  · rw [hgt]; exact B1.out.size
  · omega
  · simp; omega
  intro w2 rm2
  have R2 := Lib.hid rm2
  rw [← hgt]
  clear rm2 hgt hmk HMZ B1 OC
  obtain ⟨I, Z, ti, tz, ts1, ty, tk⟩ := rs_info pt_info
  obtain ⟨I2, Z2, fi, fz, fs1, fy, fk⟩ := rs_info f_info
  go_wp2_with fail
  go_loopw [9, 10] (fun v9 v10 wr => ∃ (i f : Nat) (T : Nat → Bool) (L : List Pt) (Tm : List (Nat × List Nat)), v10 = .int .i64 i ∧ i ≤ n ∧ Ms l L Tm ∧ mergeL l m s n (ordL (ltI l) n) = Tm ++ mergeL l m s f (lft (ordL (ltI l) n) T i) ∧ (lft (ordL (ltI l) n) T i).length ≤ f ∧ L.length ≤ i ∧ Rm W (gt + 1) gt n ao (ordL (ltI l) n) T v9 L wr) (fun _ v10 _ => n - (intOf v10).toNat)
  case atStart => exact ⟨0, n, fun _ => false, [], [], rfl, by omega, Ms.nil _, by rw [lft_all]; rfl, by rw [lft_all, (ord_ok l n).1]; exact Nat.le_refl _, by simp, R2.out⟩
  case round =>
    clear R2
    obtain ⟨i, f, T, L, Tm, rfl, hi, hms, hT, hlf, hLi, hrm⟩ := hrel
    have MS := Lib.hid (And.intro hms (And.intro hT hlf))
    have RM := Lib.hid hrm
    clear hms hT hlf hrm
    obtain ⟨w3, e3⟩ : ∃ y, y = wr := ⟨_, rfl⟩
    rw [← e3] at RM ⊢
    clear e3
    by_cases hlt : i < n
    · have i1 : (i : Int) < (n : Int) := by omega
      obtain ⟨x, hx, xn⟩ := ord_at l hlt
      have x1 : (x : Int) < (n : Int) := by omega
      have HX := Lib.hid hx
      obtain ⟨ga, hga⟩ : ∃ ga, ao = some ga := by
        cases e : ao with
        | none => have := (ON.out e).1; omega
        | some g => exact ⟨g, rfl⟩
      obtain ⟨gb, o0, r0⟩ := ga
      obtain ⟨e1, e2, e3, e4⟩ := RM.out.o _ hga
      simp only at e1 e2 e3 e4
      cases e1
      subst hga
      have c0 := e4 i x hx
      have t0 := RM.out.t.cell xn
      have zt := RM.out.t.lt
      have zg : gb < w3.heap.size := by omega
      have GB : gb < gt := e3
      clear e4 hx e2 e3
      cases hTx : T x with
      | true =>
        rw [hTx] at t0
        have SK := Lib.hid (lft_skip HX.out hTx)
        clear hTx
        go_wp2_with fail
        go_roundw
        case rel => exact ⟨i + 1, f, T, L, Tm, by go_num, by omega, MS.out.1, by rw [← SK.out]; exact MS.out.2.1, by rw [← SK.out]; exact MS.out.2.2, by omega, RM.out⟩
        case measure => simp only [intOf]; omega
      | false =>
        rw [hTx] at t0
        have TX := Lib.hid hTx
        clear hTx
        obtain ⟨bp, op, p, rfl, hb, hp, ⟨p0, p1, p2, p3, p4⟩, ltp⟩ := (SP.out.keep RM.out.b).at xn
        have HP := Lib.hid (getPt2 hp)
        have LP := Lib.hid ltp
        clear hp ltp
        go_upto_region 9 with fail
        obtain ⟨kp, hkp⟩ : ∃ kp, kp = w3.heap.size := ⟨_, rfl⟩
        refine wp_forget (fun wx => wx.heap[kp]? = some (.cells #[.float .f64 p.range, .float .f64 p.speed, .float .f64 p.power, .float .f64 p.bearing, .float .f64 p.time] 28 (0, 0)) ∧ Below w3.heap.size w3 wx) ⟨by rw [hkp]; exact Deep.blk_alloc_new _ _, al_below w3 _⟩ ?_
        rintro w4 ⟨k4, b4⟩
        rw [← hkp]
        have R4 := Lib.hid (RM.out.gf (Gf.of b4) (RM.out.t.keep b4))
        have K4 := Lib.hid k4
        have KP : gt < kp := by rw [hkp]; exact RM.out.t.lt
        have NB := Lib.hid (show ∀ g, u9.ownBlock = some g → g < kp from fun g hg => by rw [hkp]; exact (RM.out.r.lt g hg).2)
        have zkp := (Array.getElem?_eq_some_iff.1 k4).1
        clear k4 b4 c0 t0 zt p0 p1 p2 p3 p4 RM zg hb hkp
        go_wp2_with fail
        go_loopw [12, 13] (fun v12 v13 wr => ∃ (k : Nat), v13 = .int .i64 k ∧ i ≤ k ∧ k ≤ n ∧ wr.ownsRow w4.heap.size 22 1 v12 (pws (ordL (ltI l) n) T (nx l p m s x) i k).length (flv ((pws (ordL (ltI l) n) T (nx l p m s x) i k).map (pw l))) ∧ Tb wr gt n (tkn (ordL (ltI l) n) T (nx l p m s x) i k) ∧ Gf w4.heap.size gt w4 wr) (fun _ v13 _ => n - (intOf v13).toNat)
        case atStart => exact ⟨i, rfl, Nat.le_refl _, by omega, by rw [pws_zero]; exact World.ownsRow_nil _ _ _ _, by rw [tkn_zero]; exact R4.out.t, Gf.of (Below.refl _ _)⟩
        case round =>
          obtain ⟨k, rfl, hik, hk, how, htb, hgf⟩ := hrel
          have OW := Lib.hid how
          have TB := Lib.hid htb
          have GF := Lib.hid hgf
          clear how htb hgf
          obtain ⟨w5, e5⟩ : ∃ y, y = wr := ⟨_, rfl⟩
          rw [← e5] at OW TB GF ⊢
          clear e5
          by_cases hkn : k < n
          · have k1 : (k : Int) < (n : Int) := by omega
            obtain ⟨y, hy, yn⟩ := ord_at l hkn
            have y1 : (y : Int) < (n : Int) := by omega
            have R5 := Lib.hid (R4.out.gf GF.out TB.out)
            obtain ⟨bq, oq, q, eq, hb, hq, ⟨q0, q1, q2, q3, q4⟩, ltq⟩ := (SP.out.keep R5.out.b).at yn
            obtain ⟨rfl, rfl⟩ : bp = bq ∧ op = oq := by simpa using eq
            have c0 := (R5.out.o _ rfl).2.2.2 k y hy
            simp only at c0
            have zg : gb < w5.heap.size := by have := TB.out.lt; omega
            have NX : Hid (nx l p m s x y = (y == x || nearB m s q p)) := Lib.hid (by unfold nx nr; rw [getPt2 hq])
            have PWY : Hid (pw l y = q.power) := Lib.hid (by unfold pw; rw [getPt2 hq])
            have EQ : Hid (k = i ↔ y = x) := Lib.hid ⟨fun e => by subst e; exact Option.some.inj (hy.symm.trans HX.out), fun e => by
              subst e
              exact (List.getElem?_inj (by exact (List.getElem?_eq_some_iff.1 hy).1) (ord_nodup l n)).1 (hy.trans HX.out.symm)⟩
            have HY := Lib.hid hy
            clear hq eq hy
            go_upto_region 14 with fail
            obtain ⟨kq, hkq⟩ : ∃ kq, kq = w5.heap.size := ⟨_, rfl⟩
            refine wp_forget (fun wx => wx.heap[kq]? = some (.cells #[.float .f64 q.range, .float .f64 q.speed, .float .f64 q.power, .float .f64 q.bearing, .float .f64 q.time] 28 (0, 0)) ∧ Below w5.heap.size w5 wx) ⟨by rw [hkq]; exact Deep.blk_alloc_new _ _, al_below w5 _⟩ ?_
            rintro w6 ⟨k6, b6⟩
            rw [← hkq]
            have G6 := Lib.hid (GF.out.trans (Gf.of (b6.mono GF.out.size) : Gf w4.heap.size gt w5 w6))
            have T6 := Lib.hid (TB.out.keep b6)
            have O6 := Lib.hid (rs_own OW.out fun g hg => b6.block g (OW.out.lt g hg).2)
            have KQ : w4.heap.size ≤ kq := by rw [hkq]; exact GF.out.size
            have c0 := (b6.cell (p := ⟨gb, k, none⟩) zg).trans c0
            have zg := Nat.lt_of_lt_of_le zg b6.size
            have K6 := Lib.hid k6
            have d0 : w6.cell? ⟨kq, 0, none⟩ = some (.float .f64 q.range) := by simp [World.cell?, k6]
            have d1 : w6.cell? ⟨kq, 1, none⟩ = some (.float .f64 q.speed) := by simp [World.cell?, k6]
            have zq := (Array.getElem?_eq_some_iff.1 k6).1
            have k4 := (G6.out.block kp zkp (by omega)).trans K4.out
            have f0 : w6.cell? ⟨kp, 0, none⟩ = some (.float .f64 p.range) := by simp [World.cell?, k4]
            have f1 : w6.cell? ⟨kp, 1, none⟩ = some (.float .f64 p.speed) := by simp [World.cell?, k4]
            have zp := (Array.getElem?_eq_some_iff.1 k4).1
            clear q0 q1 q2 q3 q4 hb k6 b6 TB GF OW hkq R5 k4
            obtain ⟨N, hN⟩ : ∃ N, N = nx l p m s x y := ⟨_, rfl⟩
            have HN := Lib.hid hN
            clear hN
            go_cut [15] from 55 to 77 (fun v wx => v = .bool N ∧ Below w6.heap.size w6 wx)
            case first =>
              by_cases e : k = i
              · have NT : Hid (N = true) := Lib.hid (by rw [HN.out, NX.out, EQ.out.1 e]; simp)
                subst e
                clear d0 d1 f0 f1
                go_wp2_with fail
                go_meet
                exact ⟨by rw [NT.out], Below.refl _ _⟩
              · have yx : (y == x) = false := beq_eq_false_iff_ne.2 fun q => e (EQ.out.2 q)
                have ei : ((k : Int) == (i : Int)) = false := beq_eq_false_iff_ne.2 (by omega)
                have ei2 : ¬ (k : Int) = (i : Int) := by omega
                have N0 : Hid (N = (dF q.range p.range m && dF q.speed p.speed s)) := Lib.hid (by rw [HN.out, NX.out, yx, Bool.false_or]; rfl)
                clear yx
                go_wp2_with ((with_reducible refine wpList_floatg (x := ?_) (y := ?_) (X := ?_) (Y := ?_) rfl rfl ?_ ?_ ?_ ?_ ?_ ?_ ?_); (· rfl); (· rfl); (rotate_left 4); (· rfl); (· rfl); (· first | assumption | exact Is.refl _); (· first | assumption | exact Is.refl _); intro v n hv hl)
                have L1 := dF_is (m := m) hv
                refine (abs_walk _ _ hl).mono ?_
                rintro e w7 ⟨rfl, rfl⟩
                clear hv hl
                cases hb1 : dF q.range p.range m with
                | false =>
                  rw [hb1] at L1
                  have NF : Hid (N = false) := Lib.hid (by rw [N0.out, hb1]; rfl)
                  clear N0 hb1
                  go_wp2_with fail
                  go_meet
                  exact ⟨by rw [NF.out], below_drewN (Below.refl _ _) _⟩
                | true =>
                  rw [hb1] at L1
                  have N1 : Hid (N = dF q.speed p.speed s) := Lib.hid (by rw [N0.out, hb1, Bool.true_and])
                  clear N0 hb1
                  go_wp2_with ((with_reducible refine wpList_floatg (x := ?_) (y := ?_) (X := ?_) (Y := ?_) rfl rfl ?_ ?_ ?_ ?_ ?_ ?_ ?_); (· rfl); (· rfl); (rotate_left 4); (· rfl); (· rfl); (· first | assumption | exact Is.refl _); (· first | assumption | exact Is.refl _); intro v n hv hl)
                  have L2 := dF_is (m := s) hv
                  refine (abs_walk _ _ hl).mono ?_
                  rintro e w7 ⟨rfl, rfl⟩
                  clear hv hl
                  rw [← N1.out] at L2
                  go_wp2_with fail
                  go_meet
                  exact ⟨rfl, by (repeat' (first | assumption | exact Below.refl _ _ | refine below_drewN ?_ _ | refine Below.drew ?_ | refine Below.setCell ?_ (by first | exact Nat.le_refl _ | (simp; done) | (simp; omega)) _ | refine Below.alloc ?_ (by first | exact Nat.le_refl _ | (simp; done) | (simp; omega)) _))⟩
            case rest =>
              obtain ⟨rfl, bb⟩ := hcut
              have HB := Lib.hid bb
              have T7 := Lib.hid (T6.out.keep bb)
              have O7 := Lib.hid (rs_own O6.out fun g hg => bb.block g (O6.out.lt g hg).2)
              have G7 := Lib.hid (G6.out.trans (Gf.of (bb.mono G6.out.size) : Gf w4.heap.size gt w6 wc))
              have k7 := (bb.block kq zq).trans K6.out
              have c0 := (bb.cell (p := ⟨gb, k, none⟩) zg).trans c0
              have zg := Nat.lt_of_lt_of_le zg bb.size
              have K7 := Lib.hid k7
              have t1 : wc.cell? ⟨gt, y, none⟩ = some (.bool (T y)) := by have := T7.out.cell yn; rw [tkn_new (ord_nodup l n) HY.out hik] at this; exact this
              have zt := T7.out.lt
              have PL : (pws (ordL (ltI l) n) T (nx l p m s x) i k).length ≤ n := by have := pws_len (ordL (ltI l) n) T (nx l p m s x) i k; rw [(ord_ok l n).1] at this; exact this
              clear bb k7 d0 d1 f0 f1 zq zp K6 T6 O6 G6
              by_cases hNT : (N && !T y) = true
              · have hNT2 := hNT
                rw [Bool.and_eq_true, Bool.not_eq_true'] at hNT2
                obtain ⟨n1, n2⟩ := hNT2
                rw [n2] at t1
                subst n1
                have NN : nx l p m s x y = true := HN.out.symm
                have PS := Lib.hid (pws_set (T := T) (N := nx l p m s x) HY.out hik (by rw [NN, n2]; rfl))
                have TS := Lib.hid (tkn_set (T := T) (N := nx l p m s x) HY.out hik NN)
                have ft := T7.out.frozen y
                clear hNT n2 NN HN NX EQ
                go_upto_region 17 with fail
                have T8 := Lib.hid (T7.out.set y)
                rw [← TS.out] at T8
                have G8 := Lib.hid (G7.out.trans (Gf.set y (.bool true)))
                have O8 := Lib.hid (rs_own O7.out fun g hg => Deep.blk_setCell_other wc ⟨gt, y, none⟩ (.bool true) g (by have := (O7.out.lt g hg).1; simp only; omega))
                have k8 : (wc.setCell ⟨gt, y, none⟩ (.bool true)).heap[kq]? = some (.cells #[.float .f64 q.range, .float .f64 q.speed, .float .f64 q.power, .float .f64 q.bearing, .float .f64 q.time] 28 (0, 0)) := by
                  rw [Deep.blk_setCell_other _ _ _ _ (by simp only; omega)]; exact K7.out
                obtain ⟨w8, hw8⟩ : ∃ z, z = wc.setCell ⟨gt, y, none⟩ (.bool true) := ⟨_, rfl⟩
                rw [← hw8] at T8 G8 O8 k8 ⊢
                clear hw8 T7 O7 G7 K7 c0 t1 ft zt zg
                have d2 : w8.cell? ⟨kq, 2, none⟩ = some (.float .f64 q.power) := by simp [World.cell?, k8]
                have zq := (Array.getElem?_eq_some_iff.1 k8).1
                have z8 := G8.out.size
                clear k8
                go_wp2_with (refine wpList_append_own_at _ rfl (.tmp 95) (.tmp 98) 72 rfl w4.heap.size 22 I2 Z2 1 8 Try.undF fi fz fs1 fy fk (by decide) u12 (pws (ordL (ltI l) n) T (nx l p m s x) i k).length (flv ((pws (ordL (ltI l) n) T (nx l p m s x) i k).map (pw l))) rfl (O8.out.alloc _) ⟨w8.heap.size, 0, none⟩ 1 1 (flv [q.power]) rfl rfl (f_cells (Deep.blk_alloc_new w8 _)) (f_one _) (by simp only [maxLen]; omega) (by omega) (by simp; omega) ?_; intro v9 w9 ow gr _ _; have BW := Lib.hid (rs_grown ((Below.refl w4.heap.size w8).alloc z8 _) gr (O8.out.alloc _) (by simp; omega)); have OW9 := Lib.hid ow; clear ow gr d2)
                have O9 : Hid (w9.ownsRow w4.heap.size 22 1 v9 (pws (ordL (ltI l) n) T (nx l p m s x) i (k + 1)).length (flv ((pws (ordL (ltI l) n) T (nx l p m s x) i (k + 1)).map (pw l)))) := Lib.hid (by
                  rw [PS.out, List.length_append, List.map_append, ← flv_app]
                  have := OW9.out
                  rw [← PWY.out] at this
                  exact this)
                have T9 := Lib.hid (Tb.low T8.out BW.out (by have := KP; omega))
                have G9 := Lib.hid (G8.out.trans (Gf.of BW.out))
                clear OW9 BW T8 G8 O8 PS TS
                go_roundw
                case rel => exact ⟨k + 1, by go_num, by omega, by omega, O9.out, T9.out, G9.out⟩
                case measure => simp only [intOf]; omega
              · have hNF : (N && !T y) = false := by simpa using hNT
                have PS := Lib.hid (pws_keep (T := T) (N := nx l p m s x) HY.out hik (by rw [← HN.out]; exact hNF))
                have TS := Lib.hid (tkn_keep (T := T) (N := nx l p m s x) HY.out hik (by rw [← HN.out]; exact hNF))
                clear hNT HN NX EQ
                cases N with
                | false =>
                  clear hNF c0 t1
                  go_wp2_with fail
                  go_roundw
                  case rel => exact ⟨k + 1, by go_num, by omega, by omega, by rw [PS.out]; exact O7.out, by rw [TS.out]; exact T7.out, G7.out⟩
                  case measure => simp only [intOf]; omega
                | true =>
                  have n2 : T y = true := by simpa using hNF
                  rw [n2] at t1
                  clear hNF n2
                  go_wp2_with fail
                  go_roundw
                  case rel => exact ⟨k + 1, by go_num, by omega, by omega, by rw [PS.out]; exact O7.out, by rw [TS.out]; exact T7.out, G7.out⟩
                  case measure => simp only [intOf]; omega
          · obtain rfl : k = n := by omega
            have oL : (ordL (ltI l) k).length ≤ k := by rw [(ord_ok l k).1]; exact Nat.le_refl _
            have PE := pws_end (T := T) (l := l) (p := p) (m := m) (s := s) (ord_nodup l k) HX.out TX.out oL
            have LE := lft_end2 (T := T) (l := l) (p := p) (m := m) (s := s) (ord_nodup l k) HX.out oL
            have LS := lft_step HX.out TX.out
            have q0 := OW.out
            rw [PE] at q0
            have pwx : pw l x = p.power := by unfold pw; rw [HP.out]
            have nl : (nrs l p m s (lft (ordL (ltI l) k) T (i + 1))).length ≤ k := by
              have a1 : (nrs l p m s (lft (ordL (ltI l) k) T (i + 1))).length ≤ _ := List.length_filter_le _ _
              have a2 := lft_len (ordL (ltI l) k) T (i + 1)
              omega
            have J := Lib.hid (rsums_walk w4.heap.size u12 p.power ((nrs l p m s (lft (ordL (ltI l) k) T (i + 1))).map (pw l)) w5 (by rw [List.length_map, ← pwx]; exact q0) (fun z hz => by
              rcases List.mem_cons.1 hz with rfl | hz
              · exact LP.out.power
              · obtain ⟨y, _, rfl⟩ := List.mem_map.1 hz
                exact (getD_lt SP.out.lt y).power) (by rw [List.length_map]; omega))
            have f1 : ∃ f', f = f' + 1 := ⟨f - 1, by have := MS.out.2.2; rw [LS, List.length_cons] at this; omega⟩
            obtain ⟨f', rfl⟩ := f1
            have NT : Hid (mergeL l m s k (ordL (ltI l) k) = (Tm ++ [(x, p.power :: (nrs l p m s (lft (ordL (ltI l) k) T (i + 1))).map (pw l))]) ++ mergeL l m s f' (lft (ordL (ltI l) k) (tkn (ordL (ltI l) k) T (nx l p m s x) i k) (i + 1))) := Lib.hid (by
              rw [MS.out.2.1, LS, mergeL, HP.out, LE, pwx, List.append_assoc]; rfl)
            have NL : (lft (ordL (ltI l) k) (tkn (ordL (ltI l) k) T (nx l p m s x) i k) (i + 1)).length ≤ f' := by
              rw [LE]
              have a1 : (nks l p m s (lft (ordL (ltI l) k) T (i + 1))).length ≤ _ := List.length_filter_le _ _
              have := MS.out.2.2
              rw [LS, List.length_cons] at this
              omega
            have NL := Lib.hid NL
            have R5 := Lib.hid (R4.out.gf GF.out TB.out)
            have K5 := Lib.hid ((GF.out.block kp zkp (by omega)).trans K4.out)
            have z5 := Nat.lt_of_lt_of_le zkp GF.out.size
            clear q0 PE LE LS OW TB GF R4 K4 hik hkn
            go_wp2_with fail
            refine J.out.mono ?_
            rintro e w7 ⟨x0, rfl, hx0, hx64, b7⟩
            have k7 := (b7.block kp z5).trans K5.out
            have R7 := Lib.hid (R5.out.gf (Gf.of b7) (R5.out.t.keep b7))
            have f7 : w7.frozen? ⟨kp, 2, none⟩ = false := by simp [World.frozen?, k7]
            have c7 : w7.cell? ⟨kp, 2, none⟩ = some (.float .f64 p.power) := by simp [World.cell?, k7]
            have l7 := (Array.getElem?_eq_some_iff.1 k7).1
            have K8 := Lib.hid (cells_set w7 kp 2 (.float .f64 x0) k7)
            have MQ := Lib.hid (show mtch l ⟨p.range, p.speed, x0, p.bearing, p.time⟩ (x, p.power :: (nrs l p m s (lft (ordL (ltI l) k) T (i + 1))).map (pw l)) from ⟨x0, by simp only [HP.out], hx0, by simpa using hx64⟩)
            clear J b7 k7 hx0 hx64 R5 K5
            go_upto_region 19 with fail
            have R8 := Lib.hid (Rm.box R7.out KP NB.out (.float .f64 x0) 2)
            have k8 : (w7.setCell ⟨kp, 2, none⟩ (.float .f64 x0)).heap[kp]? = some (.cells #[.float .f64 p.range, .float .f64 p.speed, .float .f64 x0, .float .f64 p.bearing, .float .f64 p.time] 28 (0, 0)) := by rw [K8.out]; rfl
            obtain ⟨w8, hw8⟩ : ∃ z, z = w7.setCell ⟨kp, 2, none⟩ (.float .f64 x0) := ⟨_, rfl⟩
            rw [← hw8] at R8 k8 ⊢
            clear hw8 R7 c7 f7 l7 K8
            have l8 := (Array.getElem?_eq_some_iff.1 k8).1
            have d0 : w8.cell? ⟨kp, 0, none⟩ = some (.float .f64 p.range) := by simp [World.cell?, k8]
            have d1 : w8.cell? ⟨kp, 1, none⟩ = some (.float .f64 p.speed) := by simp [World.cell?, k8]
            have d2 : w8.cell? ⟨kp, 2, none⟩ = some (.float .f64 x0) := by simp [World.cell?, k8]
            have d3 : w8.cell? ⟨kp, 3, none⟩ = some (.float .f64 p.bearing) := by simp [World.cell?, k8]
            have d4 : w8.cell? ⟨kp, 4, none⟩ = some (.float .f64 p.time) := by simp [World.cell?, k8]
            have z8 := R8.out.z
            clear k8
            go_wp2_with (refine wpList_append_own_at _ rfl (.tmp 103) (.tmp 105) 47 rfl (gt + 1) 28 I Z 5 40 Try.undP ti tz ts1 ty tk (by decide) u9 L.length (plv L) rfl (R8.out.r.alloc _) ⟨w8.heap.size, 0, none⟩ 1 1 (ptv ⟨p.range, p.speed, x0, p.bearing, p.time⟩) rfl rfl (mpt_cells (q := ⟨p.range, p.speed, x0, p.bearing, p.time⟩) (Deep.blk_alloc_new w8 _)) (mpt_one _) (by simp only [maxLen]; omega) (by omega) (by simp; omega) ?_; intro v9 w9 ow gr _ _; have R9 := Lib.hid (R8.out.app ow gr); clear ow gr)
            go_roundw
            case rel => exact ⟨i + 1, f', _, _, _, by go_num, by omega, MS.out.1.snoc MQ.out, NT.out, NL.out, by rw [List.length_append, List.length_cons, List.length_nil]; omega, R9.out⟩
            case measure => simp only [intOf]; omega
    · obtain rfl : i = n := by omega
      have eT : mergeL l m s i (ordL (ltI l) i) = Tm := by
        rw [MS.out.2.1, lft_end (by rw [(ord_ok l i).1]; exact Nat.le_refl _)]
        cases f <;> simp [mergeL]
      have ET := Lib.hid eT
      clear eT
      go_wp2_with fail
      go_ret
      exact ⟨_, L, rfl, row_low RM.out.r (by have := RM.out.g1; omega), by rw [ET.out]; exact MS.out.1, RM.out.b⟩
end Go.Proofs.Ytdngkeefbpffcaa
