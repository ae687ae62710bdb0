import Derived.Test.YtdngkeefbpffcaaPwI
set_option autoImplicit false
set_option linter.unusedVariables false
namespace Go.Proofs.Ytdngkeefbpffcaa
open Go.RowKit Lk Pl
theorem empty_own (w : World) : (w.alloc (.cells #[] 28)).ownsRow w.heap.size 28 5 (.slice (some ⟨w.heap.size, 0, none⟩) 0 0) 0 [] :=
  ⟨rfl, .inr ⟨w.heap.size, 0, #[], rfl, Nat.le_refl _, Deep.blk_alloc_new _ _, Nat.le_refl _, Nat.zero_le _, rfl, rfl⟩⟩
theorem mk77_lt : PtLt mk77 := ⟨by decide, by decide, by decide, by decide, by decide⟩
theorem run_mine (g n m cap : Nat) (h : n ≤ cap) (hs : n ≤ 9223372036854775807) (w : World) : (Instr.slice 47 (.slice (some ⟨g, 0, none⟩) m cap) none (some (.int .i64 (n : Int))) none).run Try.prog w = .ok (.slice (some ⟨g, 0, none⟩) n cap) w := by
  simp [Instr.slice, run_underlying Try.undP, Instr.sliceBounds, Instr.sliceBound, asIntOf, go_sem, h]
theorem mark_at {w : World} {B n g cm : Nat} {l : List Pt} (h : w.ownsRow B 28 5 (.slice (some ⟨g, 0, none⟩) (n + 1) cm) (n + 1) (plv (l ++ [mk77]))) (hl : l.length = n) (lt : ∀ p ∈ l, PtLt p) :
    g < w.heap.size ∧ Sp w (some ⟨g, 0, none⟩) n cm l ∧ w.cell? ⟨g, n * 5, none⟩ = some (.float .f64 4635118810238550016) := by
  obtain ⟨g', cm', e, _, _, h1, h2, h3⟩ := mark_sp h hl lt
  simp only [Value.slice.injEq, Option.some.injEq, Addr.mk.injEq, and_true, true_and] at e
  obtain ⟨rfl, rfl⟩ := e
  exact ⟨h1, h2, h3⟩
theorem one_row {W w : World} {r : Rw} (b : Below W.heap.size W w) (o : w.ownsRow W.heap.size r.t r.c r.v r.n r.xs) : Rowss W w [r] := ⟨b, fun q hq => by rw [List.mem_singleton] at hq; subst hq; exact o, by simp⟩
/-- a row of numbers: its cells, its block -/
theorem row_int {w : World} {B g n cap j : Nat} {xs : List Value} {u : Value} (h : w.ownsRow B 3 1 (.slice (some ⟨g, 0, none⟩) n cap) n xs) (hj : xs[j]? = some u) : w.cell? ⟨g, j, none⟩ = some u ∧ g < w.heap.size ∧ w.frozen? ⟨g, j, none⟩ = false := by
  have c := h.cells (g := g) rfl j u hj
  rw [Addr.add_lit, Nat.zero_add] at c
  rcases h.2 with ⟨e, _⟩ | ⟨g', cap', cur', e, hB, hb, _⟩
  · cases e
  · simp only [Value.slice.injEq, Option.some.injEq, Addr.mk.injEq, and_true, true_and] at e
    obtain ⟨rfl, rfl⟩ := e
    exact ⟨c, (Array.getElem?_eq_some_iff.1 hb).1, by simp [World.frozen?, hb]⟩
theorem row_blk {w : World} {B n c : Nat} {a : Option Addr} {xs : List Value} (h : w.ownsRow B 28 5 (.slice a n c) n xs) (h0 : 0 < n) : ∃ g cur, a = some ⟨g, 0, none⟩ ∧ w.heap[g]? = some (.cells cur 28 (0, 0)) ∧ n * 5 ≤ cur.size := by
  rcases h.2 with ⟨_, e⟩ | ⟨g', cap', cur', e, hB, hb, h1, h3, h4, h5⟩
  · omega
  · simp only [Value.slice.injEq, true_and] at e
    exact ⟨g', cur', e.1, hb, by rw [h4]; exact Nat.mul_le_mul_right 5 h1⟩
theorem row_sp {w : World} {B n c : Nat} {a : Option Addr} {L : List Pt} (h : w.ownsRow B 28 5 (.slice a n c) n (plv L)) (lt : ∀ p ∈ L, PtLt p) : Sp w a n c L := by
  obtain ⟨a', c', e, s⟩ := sp_own h lt
  simp only [Value.slice.injEq, true_and] at e
  obtain ⟨rfl, rfl⟩ := e
  exact s
/-- the rows once Merge has run -/
def F6 (v13 v14 v15 : Value) (N : Nat) (L0 L2 : List Pt) (nx : Nat) (xs : List Value) (vw : Value) (n : Nat) (O : List Nat) (gb : Nat) (va : Value) (na : Nat) (ys : List Value) (gm cm : Nat) (l : List Pt) : List Rw :=
  [rP v15 N L2, rX v14 nx xs, rP v13 N L0, rI vw n O, rI (.slice (some ⟨gb, 0, none⟩) n n) n O, rY va na ys, rM (.slice (some ⟨gm, 0, none⟩) (n + 1) cm) n l]
set_option maxRecDepth 100000 in
set_option maxHeartbeats 8000000 in
theorem orders_law (a : Option Addr) (n cap : Nat) (l : List Pt) (m s : Nat) (W : World) (h : Sp W a n cap l) :
    Calls Try.prog 6 #[.slice a n cap, .float .f64 m, .float .f64 s] W (fun e w' => e = .returned (.bool true) ∧ Below W.heap.size W w') := by
  have SP := Lib.hid h
  have ll := h.len
  clear h
  by_cases big : 1024 < n
  · have b2 : (1024 : Int) < (n : Int) := by omega
    go_enter Try.func6, Try.ntmps6
    go_wp2_with fail
    refine (wakes_walk _).mono ?_
    rintro e w1 ⟨rfl, b1⟩
    have B1 := Lib.hid b1
    clear b1
    go_wp2_with fail
    go_ret
    exact ⟨rfl, B1.out⟩
  · have b2 : ¬ (1024 : Int) < (n : Int) := by omega
    have n1 : n ≤ 1024 := by omega
    obtain ⟨I, Z, ti, tz, ts1, ty, tk⟩ := rs_info pt_info
    obtain ⟨I2, Z2, fi, fz, fs1, fy, fk⟩ := rs_info in_info
    have an : a = none → n = 0 ∧ cap = 0 := fun e => by have := SP.out.nil e; have := SP.out.le; omega
    have pl : (plv l).length = n * 5 := by rw [plv_len, ll]
    have rs := fun g m c h => run_mine g n m c h (by omega)
    have SR := Lib.hid (fun b hb j u hu => sp_src (SP.out.keep (al_below W (.cells #[] 28))) b hb j u hu)
    clear big
    go_enter Try.func6, Try.ntmps6
    go_upto_region 3 with fail
    go_wp2_with (first
      | (refine wpList_append_any rfl (.tmp 22) (.tmp 23) 47 rfl W.heap.size 28 I Z 5 40 Try.undP ti tz ts1 ty tk (by decide) (.slice (some ⟨W.heap.size, 0, none⟩) 0 0) 0 [] rfl (empty_own W) a n cap (plv l) rfl an pl SR.out (plv_one l) (by simp only [maxLen]; omega) (by omega) (by first | (simp; done) | (simp; omega)) ?_; intro v1 w1 ow gr _; have Q1 := Lib.hid ow; have Y1 := Lib.hid (rs_grown (al_below W (.cells #[] 28)) gr (empty_own W) (by first | (simp; done) | (simp; omega))); clear ow gr)
      | (refine wpList_append_any rfl (.tmp 24) (.tmp 26) 47 rfl W.heap.size 28 I Z 5 40 Try.undP ti tz ts1 ty tk (by decide) v1 (0 + n) ([] ++ plv l) rfl (Q1.out.alloc _) (some ⟨w1.heap.size, 0, none⟩) 1 1 (ptv mk77) rfl (fun e => by (cases e)) rfl (fun b hb => by (cases hb; exact mpt_cells (q := mk77) (Deep.blk_alloc_new w1 _))) (mpt_one _) (by simp only [maxLen]; omega) (by omega) (by have := Y1.out.size; first | (simp; done) | (simp; omega)) ?_; intro v2 w2 ow gr _; have Y2 := Lib.hid (rs_grown (Y1.out.alloc Y1.out.size _) gr (Q1.out.alloc _) (by have := Y1.out.size; first | (simp; done) | (simp; omega))); have Q2 : Hid (w2.ownsRow W.heap.size 28 5 v2 (n + 1) (plv (l ++ [mk77]))) := Lib.hid (by have := ow; rw [List.nil_append, Nat.zero_add, plv_snoc] at this; exact this); obtain ⟨gm, cm, rfl, m1, m2, gmz, smk, _⟩ := mark_sp Q2.out ll SP.out.lt; have SM := Lib.hid smk; clear smk; have m3 : n ≤ cm := (by omega); clear ow gr))
    have R2 := Lib.hid (one_row (r := rM (.slice (some ⟨gm, 0, none⟩) (n + 1) cm) n l) Y2.out Q2.out)
    have OL := Lib.hid (ord_ok l n).1
    clear SR Q1 Y1 Q2 Y2 pl an
    refine (order_all (some ⟨gm, 0, none⟩) n cm l w2 SM.out (by omega)).mono ?_
    rintro e w3 ⟨ga, rfl, hga, hda, hb3⟩
    have R3 := Lib.hid (R2.out.call (r := rI (.slice (some ⟨ga, 0, none⟩) n n) n (ordL (ltI l) n)) hb3 (di_own hda hga OL.out (by omega)))
    have S3 := Lib.hid (SM.out.keep hb3)
    clear hga hda hb3 R2 SM
    go_wp2_with fail
    refine (order_all (some ⟨gm, 0, none⟩) n cm l w3 S3.out (by omega)).mono ?_
    rintro e w4 ⟨gb, rfl, hgb, hdb, hb4⟩
    have R4 := Lib.hid (R3.out.call (r := rI (.slice (some ⟨gb, 0, none⟩) n n) n (ordL (ltI l) n)) hb4 (di_own hdb hgb OL.out (by omega)))
    clear hgb hdb hb4 R3 S3
    go_wp2_with fail
    refine (rorder_walk a n cap l w4 (SP.out.keep R4.out.b) (by omega)).mono ?_
    rintro e w5 ⟨vw, rfl, oww, hb5⟩
    have R5 := Lib.hid (R4.out.call (r := rI vw n (ordL (ltI l) n)) hb5 oww)
    obtain ⟨ao, co, rfl, c1, c2, _, onil, ocl⟩ := int_own oww
    have AO : Hid (0 < n → ∃ gw, ao = some ⟨gw, 0, none⟩) := Lib.hid (fun h0 => by
      cases e : ao with
      | none => have := (onil e).1; omega
      | some g => have := (ocl g e).1; exact ⟨g.block, by rw [← this]⟩)
    clear oww hb5 R4 onil ocl
    go_wp2_with fail
    go_loopw [11] (fun v11 wr => ∃ i : Nat, v11 = .int .i64 i ∧ i ≤ n ∧ Rowss W wr [rI (.slice ao n co) n (ordL (ltI l) n), rI (.slice (some ⟨gb, 0, none⟩) n n) n (ordL (ltI l) n), rY (.slice (some ⟨ga, 0, none⟩) n n) n (aL (ordL (ltI l) n) i), rM (.slice (some ⟨gm, 0, none⟩) (n + 1) cm) n l]) (fun v11 _ => n - (intOf v11).toNat)
    case atStart => exact ⟨0, rfl, by omega, by rw [aL_zero]; exact R5.out⟩
    case round =>
      clear R5
      obtain ⟨i, rfl, hi, hrw⟩ := hrel
      have RW := Lib.hid hrw
      clear hrw
      by_cases hlt : i < n
      · have i1 : (i : Int) < (n : Int) := by omega
        obtain ⟨gw, rfl⟩ := AO.out (by omega)
        obtain ⟨x, hx, xn⟩ := ord_at l hlt
        have HX := Lib.hid hx
        have xb : (x : Int) < 9223372036854775808 := by omega
        obtain ⟨a0, a1, a2⟩ := row_int (RW.out.own (rY (.slice (some ⟨ga, 0, none⟩) n n) n (aL (ordL (ltI l) n) i)) (by simp)) (aL_get hx)
        obtain ⟨w0, w1', _⟩ := row_int (RW.out.own (rI (.slice (some ⟨gw, 0, none⟩) n co) n (ordL (ltI l) n)) (by simp)) (j := i) (u := .int .i64 (x : Int)) (by show (ints (ordL (ltI l) n))[i]? = _; unfold ints; rw [List.getElem?_map, hx]; rfl)
        clear hx
        obtain ⟨w8, e8⟩ : ∃ y, y = wr := ⟨_, rfl⟩
        rw [← e8] at RW a0 a1 a2 w0 w1' ⊢
        clear e8
        go_upto_region 12 with fail
        go_cut [63] from 55 to 63 (fun v wx => v = .bool false ∧ Below w8.heap.size w8 wx)
        case first =>
          refine wp_region_J 9 (fun x => Below w8.heap.size w8 x) (by kernel_rfl) rfl (by kernel_rfl) ((Below.refl _ w8).drew) (fun wj hJ hs => ?_)
          have HJ := Lib.hid hJ
          clear hJ a2
          (refine j_take 0 _ ?_ hs rfl rfl (by kernel_rfl) (by kernel_rfl) HJ.out (fun w' hw' => ?_) ?_; rotate_left; (· skip; go_simp; rfl); (go_simp))
          (refine j_take 1 _ ?_ hs rfl rfl (by kernel_rfl) (by kernel_rfl) HJ.out (fun w' hw' => ?_) ?_; rotate_left; (· skip; go_simp; rfl); (go_simp))
          (refine j_take 2 _ ?_ hs rfl rfl (by kernel_rfl) (by kernel_rfl) HJ.out (fun w' hw' => ?_) ?_; rotate_left; (· skip; go_simp; rfl); (go_simp))
          (refine j_take 3 _ ?_ hs rfl rfl (by kernel_rfl) (by kernel_rfl) HJ.out (fun w' hw' => ?_) ?_; rotate_left; (· have d := (hw'.cell (p := ⟨ga, i, none⟩) a1).trans a0; go_simp; rfl); (go_simp))
          (refine j_take 4 _ ?_ hs rfl rfl (by kernel_rfl) (by kernel_rfl) HJ.out (fun w' hw' => ?_) ?_; rotate_left; (· skip; go_simp; rfl); (go_simp))
          (refine j_take 5 _ ?_ hs rfl rfl (by kernel_rfl) (by kernel_rfl) HJ.out (fun w' hw' => ?_) ?_; rotate_left; (· skip; go_simp; rfl); (go_simp))
          (refine j_take 6 _ ?_ hs rfl rfl (by kernel_rfl) (by kernel_rfl) HJ.out (fun w' hw' => ?_) ?_; rotate_left; (· skip; go_simp; rfl); (go_simp))
          (refine j_take 7 _ ?_ hs rfl rfl (by kernel_rfl) (by kernel_rfl) HJ.out (fun w' hw' => ?_) ?_; rotate_left; (· have d := (hw'.cell (p := ⟨gw, i, none⟩) w1').trans w0; go_simp; rfl); (go_simp))
          (refine j_take 8 _ ?_ hs rfl rfl (by kernel_rfl) (by kernel_rfl) HJ.out (fun w' hw' => ?_) ?_; rotate_left; (· skip; go_simp; rfl); (go_simp))
          refine j_done (by kernel_rfl) ?_
          go_wp2_with fail
          go_meet
          exact ⟨rfl, HJ.out⟩
        case rest =>
          obtain ⟨rfl, bb⟩ := hcut
          have R7 := Lib.hid (RW.out.below bb)
          have a0 := (bb.cell (p := ⟨ga, i, none⟩) a1).trans a0
          have a2 : wc.frozen? ⟨ga, i, none⟩ = false := (World.frozen?_of_block (a := ⟨ga, i, none⟩) (bb.block ga a1)).trans a2
          have a1 := Nat.lt_of_lt_of_le a1 bb.size
          clear bb RW w0 w1'
          go_wp2_with fail
          have R9 := Lib.hid (Rowss.set (A := [rI (.slice (some ⟨gw, 0, none⟩) n co) n (ordL (ltI l) n), rI (.slice (some ⟨gb, 0, none⟩) n n) n (ordL (ltI l) n)]) (r := rY (.slice (some ⟨ga, 0, none⟩) n n) n (aL (ordL (ltI l) n) i)) R7.out rfl (only_set wc ga i (.int .i64 (-5))) (own_set1 (R7.out.own (rY (.slice (some ⟨ga, 0, none⟩) n n) n (aL (ordL (ltI l) n) i)) (by simp)) hlt))
          simp only [rY, aL_set HX.out] at R9
          go_roundw
          case rel => exact ⟨i + 1, by go_num, by omega, R9.out⟩
          case measure => simp only [intOf]; omega
      · obtain rfl : i = n := by omega
        have RA := Lib.hid RW.out
        clear RW
        go_wp2_with fail
        go_loopw [12] (fun v12 wr => ∃ j : Nat, v12 = .int .i64 j ∧ j ≤ i ∧ Rowss W wr [rI (.slice ao i co) i (ordL (ltI l) i), rI (.slice (some ⟨gb, 0, none⟩) i i) i (ordL (ltI l) i), rY (.slice (some ⟨ga, 0, none⟩) i i) i (aL (ordL (ltI l) i) i), rM (.slice (some ⟨gm, 0, none⟩) (i + 1) cm) i l]) (fun v12 _ => i - (intOf v12).toNat)
        case atStart => exact ⟨0, rfl, by omega, RA.out⟩
        case round =>
          clear RA
          obtain ⟨j, rfl, hj, hrw⟩ := hrel
          have RW := Lib.hid hrw
          clear hrw
          obtain ⟨w8, e8⟩ : ∃ y, y = wr := ⟨_, rfl⟩
          rw [← e8] at RW ⊢
          clear e8
          by_cases hlt : j < i
          · have j1 : (j : Int) < (i : Int) := by omega
            obtain ⟨gw, rfl⟩ := AO.out (by omega)
            obtain ⟨x, hx, xn⟩ := ord_at l hlt
            obtain ⟨a0, a1, _⟩ := row_int (RW.out.own (rI (.slice (some ⟨gb, 0, none⟩) i i) i (ordL (ltI l) i)) (by simp)) (j := j) (u := .int .i64 (x : Int)) (by show (ints (ordL (ltI l) i))[j]? = _; unfold ints; rw [List.getElem?_map, hx]; rfl)
            obtain ⟨w0, w1', _⟩ := row_int (RW.out.own (rI (.slice (some ⟨gw, 0, none⟩) i co) i (ordL (ltI l) i)) (by simp)) (j := j) (u := .int .i64 (x : Int)) (by show (ints (ordL (ltI l) i))[j]? = _; unfold ints; rw [List.getElem?_map, hx]; rfl)
            clear hx
            go_upto_region 18 with fail
            go_cut [81] from 73 to 81 (fun v wx => v = .bool false ∧ Below w8.heap.size w8 wx)
            case first =>
              refine wp_region_J 9 (fun x => Below w8.heap.size w8 x) (by kernel_rfl) rfl (by kernel_rfl) ((Below.refl _ w8).drew) (fun wj hJ hs => ?_)
              have HJ := Lib.hid hJ
              clear hJ
              (refine j_take 0 _ ?_ hs rfl rfl (by kernel_rfl) (by kernel_rfl) HJ.out (fun w' hw' => ?_) ?_; rotate_left; (· skip; go_simp; rfl); (go_simp))
              (refine j_take 1 _ ?_ hs rfl rfl (by kernel_rfl) (by kernel_rfl) HJ.out (fun w' hw' => ?_) ?_; rotate_left; (· skip; go_simp; rfl); (go_simp))
              (refine j_take 2 _ ?_ hs rfl rfl (by kernel_rfl) (by kernel_rfl) HJ.out (fun w' hw' => ?_) ?_; rotate_left; (· skip; go_simp; rfl); (go_simp))
              (refine j_take 3 _ ?_ hs rfl rfl (by kernel_rfl) (by kernel_rfl) HJ.out (fun w' hw' => ?_) ?_; rotate_left; (· have d := (hw'.cell (p := ⟨gb, j, none⟩) a1).trans a0; go_simp; rfl); (go_simp))
              (refine j_take 4 _ ?_ hs rfl rfl (by kernel_rfl) (by kernel_rfl) HJ.out (fun w' hw' => ?_) ?_; rotate_left; (· skip; go_simp; rfl); (go_simp))
              (refine j_take 5 _ ?_ hs rfl rfl (by kernel_rfl) (by kernel_rfl) HJ.out (fun w' hw' => ?_) ?_; rotate_left; (· skip; go_simp; rfl); (go_simp))
              (refine j_take 6 _ ?_ hs rfl rfl (by kernel_rfl) (by kernel_rfl) HJ.out (fun w' hw' => ?_) ?_; rotate_left; (· skip; go_simp; rfl); (go_simp))
              (refine j_take 7 _ ?_ hs rfl rfl (by kernel_rfl) (by kernel_rfl) HJ.out (fun w' hw' => ?_) ?_; rotate_left; (· have d := (hw'.cell (p := ⟨gw, j, none⟩) w1').trans w0; go_simp; rfl); (go_simp))
              (refine j_take 8 _ ?_ hs rfl rfl (by kernel_rfl) (by kernel_rfl) HJ.out (fun w' hw' => ?_) ?_; rotate_left; (· skip; go_simp; rfl); (go_simp))
              refine j_done (by kernel_rfl) ?_
              go_wp2_with fail
              go_meet
              exact ⟨rfl, HJ.out⟩
            case rest =>
              obtain ⟨rfl, bb⟩ := hcut
              have R7 := Lib.hid (RW.out.below bb)
              clear bb RW w0 w1' a0 a1
              go_wp2_with fail
              go_roundw
              case rel => exact ⟨j + 1, by go_num, by omega, R7.out⟩
              case measure => simp only [intOf]; omega
          · obtain rfl : j = i := by omega
            go_wp2_with fail
            refine (rmerge_walk a j cap l m s w8 (SP.out.keep RW.out.b) (by omega)).mono ?_
            rintro e w9 ⟨v13, L0, rfl, ow9, ms0, b9⟩
            have M0 := Lib.hid ms0
            have R9 := Lib.hid (RW.out.call (r := rP v13 L0.length L0) b9 ow9)
            clear ow9 ms0 b9 RW
            obtain ⟨gmz, sm9, _⟩ := mark_at (R9.out.own (rM (.slice (some ⟨gm, 0, none⟩) (j + 1) cm) j l) (by simp)) ll SP.out.lt
            have S9 := Lib.hid sm9
            clear sm9
            go_wp2_with fail
            refine (merge_walk0 (some ⟨gm, 0, none⟩) j cm l (ordL (ltI l) j) m s w9 S9.out (fun q hq => by cases hq; exact .inl gmz) (ord_of (some ⟨gm, 0, none⟩) j cm l (by omega)) (ord_ok l j).1 (ord_ok l j).2.1 (by omega)).mono ?_
            rintro e w10 ⟨v14, L1, rfl, ow10, ms1, b10⟩
            have M1 := Lib.hid ms1
            have R10 := Lib.hid (R9.out.call (r := rP v14 L1.length L1) b10 ow10)
            have S10 := Lib.hid (S9.out.keep b10)
            have gmz := Nat.lt_of_lt_of_le gmz b10.size
            clear ow10 ms1 b10 R9 S9
            go_wp2_with fail
            refine (merge_walk0 (some ⟨gm, 0, none⟩) j cm l (ordL (ltI l) j) m s w10 S10.out (fun q hq => by cases hq; exact .inl gmz) (ord_of (some ⟨gm, 0, none⟩) j cm l (by omega)) (ord_ok l j).1 (ord_ok l j).2.1 (by omega)).mono ?_
            rintro e w11 ⟨v15, L2, rfl, ow11, ms2, b11⟩
            have M2 := Lib.hid ms2
            have R11 := Lib.hid (R10.out.call (r := rP v15 L2.length L2) b11 ow11)
            clear ow11 ms2 b11 R10 S10 gmz
            obtain ⟨N, hN⟩ : ∃ N, N = (mergeL l m s j (ordL (ltI l) j)).length := ⟨_, rfl⟩
            have nN : N ≤ j := by rw [hN]; have := merge_le l m s j (ordL (ltI l) j); rw [(ord_ok l j).1] at this; exact this
            rw [M0.out.1, M1.out.1, M2.out.1, ← hN] at R11
            have ES1 := Lib.hid (ms_same M1.out M0.out)
            have ES2 := Lib.hid (ms_same M2.out M0.out)
            have T0 := Lib.hid (ms_lt M0.out SP.out.lt)
            have T1 := Lib.hid (ms_lt M1.out SP.out.lt)
            have T2 := Lib.hid (ms_lt M2.out SP.out.lt)
            have L0N : L0.length = N := by rw [hN]; exact M0.out.1
            have L2N : L2.length = N := by rw [hN]; exact M2.out.1
            clear M0 M1 M2 hN
            have q13 : w11.ownsRow W.heap.size 28 5 v13 N (plv L0) := R11.out.own (rP v13 N L0) (by simp)
            obtain ⟨a13, c13, rfl, s13⟩ := sp_own q13 T0.out
            clear q13
            have q14 : w11.ownsRow W.heap.size 28 5 v14 N (plv L1) := R11.out.own (rP v14 N L1) (by simp)
            obtain ⟨a14, c14, rfl, s14⟩ := sp_own q14 T1.out
            clear q14
            have q15 : w11.ownsRow W.heap.size 28 5 v15 N (plv L2) := R11.out.own (rP v15 N L2) (by simp)
            obtain ⟨a15, c15, rfl, s15⟩ := sp_own q15 T2.out
            clear q15
            have C1 := Lib.hid (sameplots_walk a14 a13 N c14 c13 L1 L0 w11 s14 s13 ES1.out)
            have C2 := Lib.hid (fun w' (b : Below w11.heap.size w11 w') => sameplots_walk a15 a13 N c15 c13 L2 L0 w' (s15.keep b) (s13.keep b) ES2.out)
            clear s13 s14 s15
            go_wp2_with fail
            refine C1.out.mono ?_
            rintro e w12 ⟨rfl, b12⟩
            have B12 := Lib.hid b12
            clear b12
            go_wp2_with fail
            refine (C2.out w12 B12.out).mono ?_
            rintro e w13 ⟨rfl, b13⟩
            have R13 := Lib.hid ((R11.out.below B12.out).below b13)
            clear b13 B12 C1 C2 R11
            have R13 : Hid (Rowss W w13 [rP (.slice a15 N c15) N L2, rX (.slice a14 N c14) N (plv L1), rP (.slice a13 N c13) N L0, rI (.slice ao j co) j (ordL (ltI l) j), rI (.slice (some ⟨gb, 0, none⟩) j j) j (ordL (ltI l) j), rY (.slice (some ⟨ga, 0, none⟩) j j) j (aL (ordL (ltI l) j) j), rM (.slice (some ⟨gm, 0, none⟩) (j + 1) cm) j l]) := R13
            go_wp2_with fail
            go_loopw [16] (fun v16 wr => ∃ i : Nat, v16 = .int .i64 i ∧ i ≤ N ∧ ∃ xs, Rowss W wr [rP (.slice a15 N c15) N L2, rX (.slice a14 N c14) N xs, rP (.slice a13 N c13) N L0, rI (.slice ao j co) j (ordL (ltI l) j), rI (.slice (some ⟨gb, 0, none⟩) j j) j (ordL (ltI l) j), rY (.slice (some ⟨ga, 0, none⟩) j j) j (aL (ordL (ltI l) j) j), rM (.slice (some ⟨gm, 0, none⟩) (j + 1) cm) j l]) (fun v16 _ => N - (intOf v16).toNat)
            case atStart => exact ⟨0, rfl, by omega, _, R13.out⟩
            case round =>
              clear R13
              obtain ⟨i, rfl, hi, xs, hrw⟩ := hrel
              have RW := Lib.hid hrw
              clear hrw
              obtain ⟨w8, e8⟩ : ∃ y, y = wr := ⟨_, rfl⟩
              rw [← e8] at RW ⊢
              clear e8
              by_cases hlt : i < N
              · have i1 : (i : Int) < (N : Int) := by omega
                obtain ⟨gx, cur, rfl, hgx, hcs⟩ := row_blk (RW.out.own (rX (.slice a14 N c14) N xs) (by simp)) (by omega)
                have hold : i * 5 + 5 ≤ cur.size := by omega
                go_wp2_with (refine wpList_store_at rfl rfl (g := gx) (j := i * 5) (cells := #[.float .f64 13840687554816376832, .float .f64 0, .float .f64 0, .float .f64 0, .float .f64 0]) rfl rfl hgx (by kernel_rfl) hold (by kernel_rfl) ?_; intro w9 h9 o9)
                obtain ⟨xs2, ow2⟩ := own_put (RW.out.own (rX (.slice (some ⟨gx, 0, none⟩) N c14) N xs) (by simp)) hlt rfl hgx h9
                have R9 := Lib.hid (Rowss.set (A := [rP (.slice a15 N c15) N L2]) (r := rX (.slice (some ⟨gx, 0, none⟩) N c14) N xs) RW.out rfl o9 ow2)
                clear o9 h9 ow2 hgx hold RW
                go_roundw
                case rel => exact ⟨i + 1, by go_num, by omega, xs2, R9.out⟩
                case measure => simp only [intOf]; omega
              · obtain rfl : i = N := by omega
                have RB := Lib.hid RW.out
                clear RW
                go_wp2_with fail
                go_loopw [8, 14, 17] (fun v8 v14 v17 wr => ∃ t : Nat, v17 = .int .i64 t ∧ t ≤ 20 ∧ ∃ xs ys, Rowss W wr [rP (.slice a15 i c15) i L2, rX v14 (i + t) xs, rP (.slice a13 i c13) i L0, rI (.slice ao j co) j (ordL (ltI l) j), rI (.slice (some ⟨gb, 0, none⟩) j j) j (ordL (ltI l) j), rY v8 (j + t) ys, rM (.slice (some ⟨gm, 0, none⟩) (j + 1) cm) j l]) (fun _ _ v17 _ => 20 - (intOf v17).toNat)
                case atStart => exact ⟨0, rfl, by omega, _, _, RB.out⟩
                case round =>
                  clear RB
                  obtain ⟨t, rfl, ht, xs, ys, hrw⟩ := hrel
                  have RW := Lib.hid hrw
                  clear hrw
                  obtain ⟨w8, e8⟩ : ∃ y, y = wr := ⟨_, rfl⟩
                  rw [← e8] at RW ⊢
                  clear e8
                  by_cases hlt : t < 20
                  · have t1 : (t : Int) < 20 := by omega
                    have zb := RW.out.b.size
                    have X0 := Lib.hid (RW.out.below (al_below w8 (.cells #[.float .f64 0, .float .f64 0, .float .f64 0, .float .f64 0, .float .f64 0] 28)))
                    go_wp2_with (first
                      | (refine wpList_append_own_at _ rfl (.tmp 118) (.tmp 120) 47 rfl W.heap.size 28 I Z 5 40 Try.undP ti tz ts1 ty tk (by decide) u14 (i + t) xs rfl (X0.out.own (rX u14 (i + t) xs) (by simp)) ⟨w8.heap.size, 0, none⟩ 1 1 (ptv pt0) rfl rfl (mpt_cells (q := pt0) (Deep.blk_alloc_new w8 _)) (mpt_one _) (by simp only [maxLen]; omega) (by omega) (by first | (simp; done) | (simp; omega)) ?_; intro v9 w9 ow gr _ hat; have R9 := Lib.hid (Rowss.grow (A := [rP (.slice a15 i c15) i L2]) (r := rX u14 (i + t) xs) X0.out gr ow hat); have zb9 := R9.out.b.size; have X9 := Lib.hid (R9.out.below (al_below w9 (.cells #[.int .i64 (-6)] 3))); clear ow gr hat)
                      | (refine wpList_append_own_at _ rfl (.tmp 122) (.tmp 123) 48 rfl W.heap.size 3 I2 Z2 1 8 Try.undI fi fz fs1 fy fk (by decide) u8 (j + t) ys rfl (X9.out.own (rY u8 (j + t) ys) (by simp)) ⟨w9.heap.size, 0, none⟩ 1 1 [.int .i64 (-6)] rfl rfl (cell_one_new w9 _ _) (by simp [Value.oneCell']) (by simp only [maxLen]; omega) (by omega) (by first | (simp; done) | (simp; omega)) ?_; intro v10 w10 ow gr _ hat; have R10 := Lib.hid (Rowss.grow (A := [rP (.slice a15 i c15) i L2, rX v9 (i + t + 1) (xs ++ ptv pt0), rP (.slice a13 i c13) i L0, rI (.slice ao j co) j (ordL (ltI l) j), rI (.slice (some ⟨gb, 0, none⟩) j j) j (ordL (ltI l) j)]) (r := rY u8 (j + t) ys) X9.out gr ow hat); clear ow gr hat))
                    clear X0 R9 X9 RW
                    go_roundw
                    case rel => exact ⟨t + 1, by go_num, by omega, _, _, R10.out⟩
                    case measure => simp only [intOf]; omega
                  · obtain rfl : t = 20 := by omega
                    have S15 := row_sp (RW.out.own (rP (.slice a15 i c15) i L2) (by simp)) T2.out
                    have S13 := row_sp (RW.out.own (rP (.slice a13 i c13) i L0) (by simp)) T0.out
                    obtain ⟨gmz, sm, cmk⟩ := mark_at (RW.out.own (rM (.slice (some ⟨gm, 0, none⟩) (j + 1) cm) j l) (by simp)) ll SP.out.lt
                    have qx : w8.ownsRow W.heap.size 28 5 u14 (i + 20) xs := RW.out.own (rX u14 (i + 20) xs) (by simp)
                    obtain ⟨a14b, c14b, rfl, _, _⟩ := rs_form qx
                    have qy : w8.ownsRow W.heap.size 3 1 u8 (j + 20) ys := RW.out.own (rY u8 (j + 20) ys) (by simp)
                    obtain ⟨a8b, c8b, rfl, _, _⟩ := rs_form qy
                    clear qx qy
                    have B8 := Lib.hid RW.out.b
                    have C1 := Lib.hid (sameplots_walk a15 a13 i c15 c13 L2 L0 w8 S15 S13 ES2.out)
                    have C2 := Lib.hid (fun w' (b : Below w8.heap.size w8 w') => sameplots_walk (some ⟨gm, 0, none⟩) a j cm cap l l w' (sm.keep b) ((SP.out.keep B8.out).keep b) (isl_refl l))
                    have rs2 : ∀ w : World, (Instr.slice 47 (.slice (some ⟨gm, 0, none⟩) j cm) none (some (.int .i64 ((j : Int) + 1))) none).run Try.prog w = .ok (.slice (some ⟨gm, 0, none⟩) (j + 1) cm) w := fun w => by
                      have := run_mine gm (j + 1) j cm m1 (by omega) w
                      simpa using this
                    have f77 : (FloatKind.f64.format.order 4635118810238550016 4635118810238550016 == some Ordering.eq) = true := by kernel_rfl
                    have jj : (j : Int) < (j : Int) + 1 := by omega
                    have wj : IntKind.i64.wrap ((j : Int) + 1) = (j : Int) + 1 := IntWalk.i64_in _ (by omega)
                    have wk : IntKind.i64.wrap ((j : Int) + 20) = (j : Int) + 20 := IntWalk.i64_in _ (by omega)
                    have wl : IntKind.i64.wrap ((i : Int) + 20) = (i : Int) + 20 := IntWalk.i64_in _ (by omega)
                    clear S15 S13 sm RW ES1 ES2 T0 T1 T2 rs
                    go_wp2_with fail
                    refine C1.out.mono ?_
                    rintro e w9 ⟨rfl, b9⟩
                    have B9 := Lib.hid b9
                    clear C1
                    go_wp2_with fail
                    refine (C2.out w9 B9.out).mono ?_
                    rintro e w10 ⟨rfl, b10⟩
                    have cmk := (b10.cell (p := ⟨gm, j * 5, none⟩) (Nat.lt_of_lt_of_le gmz b9.size)).trans ((b9.cell (p := ⟨gm, j * 5, none⟩) gmz).trans cmk)
                    have gmz := Nat.lt_of_lt_of_le (Nat.lt_of_lt_of_le gmz b9.size) b10.size
                    have B10 := Lib.hid (B8.out.trans ((b9.trans (b10.mono b9.size)).mono B8.out.size))
                    clear b9 b10 B9 C2
                    go_wp2_with fail
                    refine (wakes_walk _).mono ?_
                    rintro e w11 ⟨rfl, b11⟩
                    have B11 := Lib.hid (B10.out.trans (b11.mono B10.out.size))
                    clear b11
                    go_wp2_with fail
                    go_ret
                    exact ⟨rfl, B11.out⟩
end Go.Proofs.Ytdngkeefbpffcaa
