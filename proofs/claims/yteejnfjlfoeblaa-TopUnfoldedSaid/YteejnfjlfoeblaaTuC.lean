import Derived.Test.YteejnfjlfoeblaaTuB
import Derived.Deep.DeepCutAuto
import Derived.Deep.CutBlock
set_option autoImplicit false
set_option linter.unusedVariables false
namespace Go.Proofs.Yteejnfjlfoeblaa
open Go.RowKit Go.ChangeShapes Go.WideShapes Go.ChangeAt Lk Rs Fo
theorem grd_walk (n : Int) (w : World) : Calls Try.prog 11 #[.int .i64 n, .int .i64 1] w (fun e w' => e = .returned (.agg #[.float .f64 4607182418800017408, .float .f64 4602678819172646912, .float .f64 4652007308841189376, .int .i64 n, .int .i64 1]) ∧ Below w.heap.size w w') := by
  go_enter Try.func11, Try.ntmps11
  go_wp2_with fail
  exact bodyPost_ret (v := .agg #[.float .f64 4607182418800017408, .float .f64 4602678819172646912, .float .f64 4652007308841189376, .int .i64 n, .int .i64 1]) (by simp [results, Try.results11, go_sem]) rfl ⟨rfl, (Below.refl _ _).alloc (Nat.le_refl _) _⟩
set_option maxRecDepth 100000 in
theorem si_arg {W : World} {base : Nat} {v : Value} (h1 : Value.okWide Try.prog W .any base 22 v) (h2 : Rd Try.prog W 22 v.cells.toList) : ∃ a n cap M, v = .slice a n cap ∧ SN W a n cap M := by
  have und : Try.prog.underlying 22 = some (.slice 3) := by kernel_rfl
  obtain ⟨ao, len, cap, hv, g1, g2, g3⟩ := rd_row (P := Try.prog) (t := 22) (e := 3) (n := 1) und (by kernel_rfl) (by decide) h2
  obtain ⟨a1, n1, c1, rfl⟩ := Go.WideShapes.okWide_slice und h1
  obtain ⟨rfl, rfl, rfl⟩ : a1 = ao ∧ n1 = len ∧ c1 = cap := by simpa [Value.cells] using hv
  rcases g3 with h0 | ⟨b, off, hb, rfl, hc⟩
  · exact ⟨a1, n1, c1, [], rfl, by rw [h0]; rfl, g1, by unfold maxLen at g2; omega, .inl h0⟩
  · have key : ∀ i, ∃ x : Int, i < n1 → W.cell? ⟨b, off + i, none⟩ = some (.int .i64 x) := by
      intro i
      by_cases hi : i < n1
      · obtain ⟨cs, hl, hcell, hr⟩ := hc i hi
        obtain ⟨x, rfl, x1, x2⟩ := rd_int Try.underlying3 hr
        refine ⟨x, fun _ => ?_⟩
        have := hcell 0 (by decide)
        rwa [show i * 1 + 0 = i by omega] at this
      · exact ⟨0, fun h => absurd h hi⟩
    obtain ⟨f, hf⟩ := Classical.axiomOfChoice key
    refine ⟨_, n1, c1, (List.range n1).map f, rfl, by simp, g1, by unfold maxLen at g2; omega, .inr ⟨b, off, rfl, hb, fun j x hx => ?_⟩⟩
    have hj : j < n1 := by have := (List.getElem?_eq_some_iff.1 hx).1; simpa using this
    rw [List.getElem?_map, List.getElem?_range hj] at hx
    cases hx
    exact hf j hj
theorem rB_snoc (v : Value) (L : List Ask1) (a : Ask1) : rB v (L ++ [a]) = ⟨44, 5, L.length + 1, v, flatB L ++ btL (grd a.n)⟩ := by unfold rB; rw [flatB_snoc, List.length_append]; rfl
theorem rC_snoc (v : Value) (T : List Cl) (t : Cl) : rC v (T ++ [t]) = ⟨36, 1, T.length + 1, v, T.map (·.v) ++ [t.v]⟩ := by unfold rC; rw [List.map_append, List.length_append]; rfl
theorem rI_snoc (v : Value) (M : List Int) (x : Int) : rI v (M ++ [x]) = ⟨2, 1, M.length + 1, v, rints M ++ [.int .i64 x]⟩ := by unfold rI; rw [rints_snoc, List.length_append]; rfl
theorem rT_snoc (v : Value) (D : List Int) (x : Int) : rT ⟨v, D ++ [x]⟩ = ⟨2, 1, D.length + 1, v, rints D ++ [.int .i64 x]⟩ := by unfold rT; simp only; rw [rints_snoc, List.length_append]; rfl
theorem bt_cells {w : World} {g : Nat} {n : Int} {ty : TypeId} (h : w.heap[g]? = some (.cells #[.float .f64 4607182418800017408, .float .f64 4602678819172646912, .float .f64 4652007308841189376, .int .i64 n, .int .i64 1] ty (0, 0))) : ∀ (j : Nat) (u : Value), (btL (grd n))[j]? = some u → w.cell? ((⟨g, 0, none⟩ : Addr).add j) = some u := by
  intro j u hu
  rw [Addr.add_lit]
  simp only [World.cell?, h, Nat.zero_add]
  simpa [btL, grd] using hu
theorem bt_one (n : Int) : ∀ u ∈ btL (grd n), u.oneCell' = true := by
  intro u hu
  simp only [btL, List.mem_cons, List.not_mem_nil, or_false] at hu
  rcases hu with rfl | rfl | rfl | rfl | rfl <;> rfl
theorem v_cells {w : World} {g : Nat} {x : Value} {ty : TypeId} (h : w.heap[g]? = some (.cells #[x] ty (0, 0))) : ∀ (j : Nat) (u : Value), [x][j]? = some u → w.cell? ((⟨g, 0, none⟩ : Addr).add j) = some u := by
  intro j u hu
  rw [Addr.add_lit]
  simp only [World.cell?, h, Nat.zero_add]
  simpa using hu
theorem v_one {a : Option Addr} {n c : Nat} : ∀ u ∈ [Value.slice a n c], u.oneCell' = true := by
  intro u hu
  rw [List.mem_singleton] at hu
  subst hu; rfl
theorem rs_bt_info : (Try.prog.info? 44).map (fun i => (i.zero.map (fun z => z.cells.size), i.size, i.bytes)) = some (some 5, 5, 40) := by kernel_rfl
theorem rs_si_info : (Try.prog.info? 36).map (fun i => (i.zero.map (fun z => z.cells.size), i.size, i.bytes)) = some (some 1, 1, 24) := by kernel_rfl
theorem perm4 (x a b c d : Rw) (F : List Rw) : ([x, a, b, c] ++ d :: F).Perm ([a, b, c, d] ++ (F ++ [x])) := by
  simp only [List.cons_append, List.nil_append]
  refine (List.perm_append_singleton x (a :: b :: c :: d :: F)).symm.trans ?_
  simp
set_option maxRecDepth 100000 in
set_option maxHeartbeats 4000000 in
theorem unf_law (x : Int) (aA : Option Addr) (nA kA : Nat) (A : List Int) (aB : Option Addr) (nB kB : Nat) (B : List Int) (aC : Option Addr) (nC kC : Nat) (C : List Int) (off : Int) (w : World)
    (hA : SN w aA nA kA A) (hB : SN w aB nB kB B) (hC : SN w aC nC kC C) :
    Calls Try.prog 4 #[.int .i64 x, .slice aA nA kA, .slice aB nB kB, .slice aC nC kC, .int .i64 off] w (fun e w' => e = .returned (.bool true) ∧ Below w.heap.size w w') := by
  have HA := Lib.hid hA
  have HB := Lib.hid hB
  have HC := Lib.hid hC
  have a63 : nA ≤ 9223372036854775807 := Nat.le_trans hA.le hA.small
  have b63 : nB ≤ 9223372036854775807 := Nat.le_trans hB.le hB.small
  have c63 : nC ≤ 9223372036854775807 := Nat.le_trans hC.le hC.small
  have a64 := hA.le
  have b64 := hB.le
  have c64 := hC.le
  have a65 := hA.small
  have b65 := hB.small
  have c65 := hC.small
  clear hA hB hC
  obtain ⟨I1, Z1, hi1, hz1, hs1, hy1, hk1⟩ := rs_info rs_int_info
  obtain ⟨I2, Z2, hi2, hz2, hs2, hy2, hk2⟩ := rs_info rs_bt_info
  obtain ⟨I3, Z3, hi3, hz3, hs3, hy3, hk3⟩ := rs_info rs_si_info
  have eo := szE_bd 4 off (by omega)
  have ex := szE_bd 65536 x (by omega)
  obtain ⟨o, ho⟩ : ∃ o, szE 4 off = o + 1 := ⟨szE 4 off - 1, by omega⟩
  obtain ⟨X, hX⟩ : ∃ X, szE 65536 x = X + 1 := ⟨szE 65536 x - 1, by omega⟩
  rw [ho] at eo
  rw [hX] at ex
  have HO := Lib.hid ho
  have HX := Lib.hid hX
  clear ho hX
  go_enter Try.func4, Try.ntmps4
  go_wp2_with fail
  refine (sz_walk off 4 (by omega) (by omega) _).mono ?_
  rintro e w1 ⟨rfl, rfl⟩
  rw [HO.out]
  go_wp2_with fail
  refine (sz_walk x 65536 (by omega) (by omega) _).mono ?_
  rintro e w1 ⟨rfl, rfl⟩
  rw [HX.out]
  go_upto_block 0 with fail
  go_cut [11, 12, 13, 14] (fun vB vC vR vM wx => ∃ (L : List Ask1) (T : List Cl) (k : Nat), k ≤ 8 ∧ U4 w wx X o vB vC vR vM L T k)
  case first =>
    go_wp2_with fail
    go_loopw [11, 12, 13, 14, 15] (fun vB vC vR vM i wr => ∃ (L : List Ask1) (T : List Cl) (k : Nat), i = .int .i64 k ∧ k ≤ 8 ∧ k ≤ nA ∧ U4 w wr X o vB vC vR vM L T k) (fun _ _ _ _ i _ => 9 - (intOf i).toNat)
    case atStart => exact ⟨[], [], 0, rfl, by omega, by omega, ⟨((((Rowss.nil (Below.refl _ w)).none1 _ _).none1 _ _).none1 _ _).none1 _ _, rfl, rfl, fun a ha => by cases ha⟩⟩
    case round =>
      obtain ⟨L, T, k, rfl, k8, kA1, R⟩ := hrel
      have HR := Lib.hid R
      clear R
      have fin : Hid (∃ (L : List Ask1) (T : List Cl) (k : Nat), k ≤ 8 ∧ U4 w wr X o u11 u12 u13 u14 L T k) := Lib.hid ⟨L, T, k, k8, HR.out⟩
      by_cases hall : k < nA ∧ k < 8
      · obtain ⟨g1, g2⟩ := hall
        clear fin
        obtain ⟨b1, o1, ev, rfl, l1, hx1, c1⟩ := HA.out.at g1
        have cc := (HR.out.r.b.cell (p := ⟨b1, o1 + k, none⟩) l1).trans c1
        have ll := Nat.lt_of_lt_of_le l1 HR.out.r.b.size
        have g2i : (k : Int) < 8 := by omega
        have nb := szE_bd 1000 ev (by omega)
        obtain ⟨n, hn⟩ : ∃ n, n = szE 1000 ev := ⟨_, rfl⟩
        rw [← hn] at nb
        have HN := Lib.hid hn
        obtain ⟨w7, e7⟩ : ∃ w7, w7 = wr := ⟨_, rfl⟩
        subst e7
        clear hx1 c1 l1 hn
        go_wp2_with fail
        refine (sz_walk ev 1000 (by omega) (by omega) _).mono ?_
        rintro e w2 ⟨rfl, rfl⟩
        rw [← HN.out]
        go_upto_if 51 with fail
        go_cut [17] (fun s17 wx => ∃ d : Int, s17 = .int .i64 d ∧ -o ≤ d ∧ d ≤ o ∧ wx = w7)
        case first =>
          by_cases gB : k < nB
          · obtain ⟨b2, o2, y, rfl, l2, hx2, c2⟩ := HB.out.at gB
            have cc2 := (HR.out.r.b.cell (p := ⟨b2, o2 + k, none⟩) l2).trans c2
            have ll2 := Nat.lt_of_lt_of_le l2 HR.out.r.b.size
            have ys := szE_bd (2 * o + 1) y (by omega)
            obtain ⟨z, hz⟩ : ∃ z, z = szE (2 * o + 1) y := ⟨_, rfl⟩
            rw [← hz] at ys
            have HZ := Lib.hid hz
            clear hx2 c2 l2 hz
            go_wp2_with fail
            refine (sz_walk y (2 * o + 1) (by omega) (by omega) _).mono ?_
            rintro e w2 ⟨rfl, rfl⟩
            rw [← HZ.out]
            go_wp2_with fail
            go_meet
            exact ⟨z - 1 - o, rfl, by omega, by omega, rfl⟩
          · go_wp2_with fail
            go_meet
            exact ⟨0, rfl, by omega, by omega, rfl⟩
        case rest =>
          obtain ⟨d, rfl, d1, d2, rfl⟩ := hcut
          have xt : X.tmod n = X % n := Int.tmod_eq_emod_of_nonneg (by omega)
          have xb0 := Int.emod_nonneg X (b := n) (by omega)
          have xb1 := Int.emod_lt_of_pos X (b := n) (by omega)
          obtain ⟨XN, hXN⟩ : ∃ XN, XN = X % n := ⟨_, rfl⟩
          rw [← hXN] at xt xb0 xb1
          have HXN := Lib.hid hXN
          have wcb := HR.out.r.b.size
          have R1 : Hid (Rowss w (wc.alloc (.cells #[.int .i64 (XN + d)] 2)) (rT ⟨.slice (some ⟨wc.heap.size, 0, none⟩) 1 1, [XN + d]⟩ :: ([rB u11 L, rC u12 T, rI u13 (L.map fun a => X % a.n), rI u14 (L.map (·.n))] ++ T.map rT))) := Lib.hid (HR.out.r.new1 (own_one (Deep.blk_alloc_new wc _) wcb rfl) rfl)
          clear hXN cc ll
          go_upto_if 72 with fail
          go_cut [18] (fun s18 wx => ∃ (D : List Int), D.length ≤ 2 ∧ XN + d ∈ D ∧ Rowss w wx (rT ⟨s18, D⟩ :: ([rB u11 L, rC u12 T, rI u13 (L.map fun a => X % a.n), rI u14 (L.map (·.n))] ++ T.map rT)))
          case first =>
            by_cases gC : k < nC
            · obtain ⟨b3, o3, y, rfl, l3, hx3, c3⟩ := HC.out.at gC
              have cc3 := (R1.out.b.cell (p := ⟨b3, o3 + k, none⟩) l3).trans c3
              have ll3 := Nat.lt_of_lt_of_le l3 R1.out.b.size
              have ys := szE_bd 1000 y (by omega)
              obtain ⟨z, hz⟩ : ∃ z, z = szE 1000 y := ⟨_, rfl⟩
              rw [← hz] at ys
              have HZ := Lib.hid hz
              clear hx3 c3 l3 hz
              go_wp2_with fail
              refine (sz_walk y 1000 (by omega) (by omega) _).mono ?_
              rintro e w2 ⟨rfl, rfl⟩
              rw [← HZ.out]
              generalize wc.alloc (.cells #[.int .i64 (XN + d)] 2) = wd at R1 cc3 ll3 ⊢
              have zd := R1.out.b.size
              have R2 := Lib.hid (R1.out.below ((Below.refl wd.heap.size wd).alloc (Nat.le_refl _) (.cells #[.int .i64 z] 2)))
              go_wp2_with (refine wpList_append_own_at _ rfl (.tmp 73) (.tmp 79) 36 rfl w.heap.size 2 I1 Z1 1 8 Try.undIn hi1 hz1 hs1 hy1 hk1 (by decide) (.slice (some ⟨wc.heap.size, 0, none⟩) 1 1) 1 (rints [XN + d]) rfl (R2.out.own _ (List.mem_cons_self ..)) ⟨wd.heap.size, 0, none⟩ 1 1 [.int .i64 z] rfl rfl (i_cells (Deep.blk_alloc_new wd _)) (i_one _) (by simp only [maxLen]; omega) (by omega) (by simp; omega) ?_; intro v3 w3 ow gr _ hat; have R3 : Hid (Rowss w w3 (rT ⟨v3, [XN + d] ++ [z]⟩ :: ([rB u11 L, rC u12 T, rI u13 (L.map fun a => X % a.n), rI u14 (L.map (·.n))] ++ T.map rT))) := Lib.hid (by rw [rT_snoc]; exact R2.out.grow1 gr ow hat); clear ow gr hat)
              go_meet
              exact ⟨[XN + d, z], by simp, by simp, R3.out⟩
            · go_wp2_with fail
              go_meet
              exact ⟨[XN + d], by simp, by simp, R1.out⟩
          case rest =>
            obtain ⟨D, D2, Dm, rd⟩ := hcut
            obtain ⟨a18, c18, e18, _, _⟩ := own_form' (rd.own _ (List.mem_cons_self ..))
            simp only [rT] at e18
            obtain ⟨D0, hD0⟩ : ∃ D0, D0 = D.length := ⟨_, rfl⟩
            rw [← hD0] at e18
            subst e18
            have HD0 := Lib.hid hD0
            clear hD0
            have RD := Lib.hid rd
            have L8 : L.length ≤ 8 := by rw [HR.out.len]; omega
            have T8 : T.length ≤ 8 := by have := congrArg List.length HR.out.tl; rw [List.length_map, List.length_map] at this; omega
            have LR : (L.map fun a => X % a.n).length ≤ 8 := by rw [List.length_map]; exact L8
            have LM : (L.map (·.n)).length ≤ 8 := by rw [List.length_map]; exact L8
            have zc := rd.b.size
            clear rd R1
            go_wp2_with fail
            refine (grd_walk n _).mono ?_
            rintro e w2 ⟨rfl, b2⟩
            have R2 := Lib.hid (RD.out.below b2)
            have z2 := R2.out.b.size
            have R3 := Lib.hid (R2.out.below ((Below.refl w2.heap.size w2).alloc (Nat.le_refl _) (.cells #[.float .f64 4607182418800017408, .float .f64 4602678819172646912, .float .f64 4652007308841189376, .int .i64 n, .int .i64 1] 44)))
            clear b2
            go_wp2_with (first
              | ((with_reducible refine wpList_append_own_at _ ?g2 (.tmp 81) (.tmp 84) 40 ?g3 w.heap.size 44 I2 Z2 5 40 Try.undBt hi2 hz2 hs2 hy2 hk2 ?g4 u11 L.length (flatB L) ?g5 ?g6 ⟨w2.heap.size, 0, none⟩ 1 1 (btL (grd n)) ?g7 ?g8 ?g9 ?g10 ?g11 ?g12 ?g13 ?_); (case g2 => rfl); (case g3 => rfl); (case g4 => decide); (case g5 => rfl); (case g6 => exact (R3.out.own (rB u11 L) (by simp))); (case g7 => rfl); (case g8 => rfl); (case g9 => exact (bt_cells (Deep.blk_alloc_new w2 _))); (case g10 => exact (bt_one n)); (case g11 => (simp only [maxLen]; omega)); (case g12 => omega); (case g13 => (simp; omega)); intro v3 w3 ow gr _ hat; have R4 : Hid (Rowss w w3 ([rT ⟨.slice a18 D0 c18, D⟩] ++ rB v3 (L ++ [⟨n, D⟩]) :: ([rC u12 T, rI u13 (L.map fun a => X % a.n), rI u14 (L.map (·.n))] ++ T.map rT))) := Lib.hid (by rw [rB_snoc]; exact Rowss.grow (A := [rT ⟨.slice a18 D0 c18, D⟩]) (r := rB u11 L) R3.out gr ow hat); have z3 := R4.out.b.size; have R5 := Lib.hid (R4.out.below ((Below.refl w3.heap.size w3).alloc (Nat.le_refl _) (.cells #[.slice a18 D0 c18] 36))); clear ow gr hat)
              | ((with_reducible refine wpList_append_own_at _ ?g2 (.tmp 86) (.tmp 88) 41 ?g3 w.heap.size 36 I3 Z3 1 24 Try.undCC hi3 hz3 hs3 hy3 hk3 ?g4 u12 T.length (T.map (·.v)) ?g5 ?g6 ⟨w3.heap.size, 0, none⟩ 1 1 [.slice a18 D0 c18] ?g7 ?g8 ?g9 ?g10 ?g11 ?g12 ?g13 ?_); (case g2 => rfl); (case g3 => rfl); (case g4 => decide); (case g5 => rfl); (case g6 => exact (R5.out.own (rC u12 T) (by simp))); (case g7 => rfl); (case g8 => rfl); (case g9 => exact (v_cells (Deep.blk_alloc_new w3 _))); (case g10 => exact v_one); (case g11 => (simp only [maxLen]; omega)); (case g12 => omega); (case g13 => (simp; omega)); intro v4 w4 ow gr _ hat; have R6 : Hid (Rowss w w4 ([rT ⟨.slice a18 D0 c18, D⟩, rB v3 (L ++ [⟨n, D⟩])] ++ rC v4 (T ++ [⟨.slice a18 D0 c18, D⟩]) :: ([rI u13 (L.map fun a => X % a.n), rI u14 (L.map (·.n))] ++ T.map rT))) := Lib.hid (by rw [rC_snoc]; exact Rowss.grow (A := [rT ⟨.slice a18 D0 c18, D⟩, rB v3 (L ++ [⟨n, D⟩])]) (r := rC u12 T) R5.out gr ow hat); have z4 := R6.out.b.size; have R7 := Lib.hid (R6.out.below ((Below.refl w4.heap.size w4).alloc (Nat.le_refl _) (.cells #[.int .i64 XN] 2))); clear ow gr hat)
              | ((with_reducible refine wpList_append_own_at _ ?g2 (.tmp 90) (.tmp 94) 36 ?g3 w.heap.size 2 I1 Z1 1 8 Try.undIn hi1 hz1 hs1 hy1 hk1 ?g4 u13 (L.map fun a => X % a.n).length (rints (L.map fun a => X % a.n)) ?g5 ?g6 ⟨w4.heap.size, 0, none⟩ 1 1 [.int .i64 XN] ?g7 ?g8 ?g9 ?g10 ?g11 ?g12 ?g13 ?_); (case g2 => rfl); (case g3 => rfl); (case g4 => decide); (case g5 => rfl); (case g6 => exact (R7.out.own (rI u13 (L.map fun a => X % a.n)) (by simp))); (case g7 => rfl); (case g8 => rfl); (case g9 => exact (i_cells (Deep.blk_alloc_new w4 _))); (case g10 => exact (i_one _)); (case g11 => (simp only [maxLen]; omega)); (case g12 => omega); (case g13 => (simp; omega)); intro v5 w5 ow gr _ hat; have R8 : Hid (Rowss w w5 ([rT ⟨.slice a18 D0 c18, D⟩, rB v3 (L ++ [⟨n, D⟩]), rC v4 (T ++ [⟨.slice a18 D0 c18, D⟩])] ++ rI v5 ((L.map fun a => X % a.n) ++ [XN]) :: ([rI u14 (L.map (·.n))] ++ T.map rT))) := Lib.hid (by rw [rI_snoc]; exact Rowss.grow (A := [rT ⟨.slice a18 D0 c18, D⟩, rB v3 (L ++ [⟨n, D⟩]), rC v4 (T ++ [⟨.slice a18 D0 c18, D⟩])]) (r := rI u13 (L.map fun a => X % a.n)) R7.out gr ow hat); have z5 := R8.out.b.size; have R9 := Lib.hid (R8.out.below ((Below.refl w5.heap.size w5).alloc (Nat.le_refl _) (.cells #[.int .i64 n] 2))); clear ow gr hat)
              | ((with_reducible refine wpList_append_own_at _ ?g2 (.tmp 96) (.tmp 98) 36 ?g3 w.heap.size 2 I1 Z1 1 8 Try.undIn hi1 hz1 hs1 hy1 hk1 ?g4 u14 (L.map (·.n)).length (rints (L.map (·.n))) ?g5 ?g6 ⟨w5.heap.size, 0, none⟩ 1 1 [.int .i64 n] ?g7 ?g8 ?g9 ?g10 ?g11 ?g12 ?g13 ?_); (case g2 => rfl); (case g3 => rfl); (case g4 => decide); (case g5 => rfl); (case g6 => exact (R9.out.own (rI u14 (L.map (·.n))) (by simp))); (case g7 => rfl); (case g8 => rfl); (case g9 => exact (i_cells (Deep.blk_alloc_new w5 _))); (case g10 => exact (i_one _)); (case g11 => (simp only [maxLen]; omega)); (case g12 => omega); (case g13 => (simp; omega)); intro v6 w6 ow gr _ hat; have RA : Hid (Rowss w w6 ([rT ⟨.slice a18 D0 c18, D⟩, rB v3 (L ++ [⟨n, D⟩]), rC v4 (T ++ [⟨.slice a18 D0 c18, D⟩]), rI v5 ((L.map fun a => X % a.n) ++ [XN])] ++ rI v6 ((L.map (·.n)) ++ [n]) :: (T.map rT))) := Lib.hid (by rw [rI_snoc v6]; exact Rowss.grow (A := [rT ⟨.slice a18 D0 c18, D⟩, rB v3 (L ++ [⟨n, D⟩]), rC v4 (T ++ [⟨.slice a18 D0 c18, D⟩]), rI v5 ((L.map fun a => X % a.n) ++ [XN])]) (r := rI u14 (L.map (·.n))) R9.out gr ow hat); clear ow gr hat))
            have NX : Hid (U4 w w6 X o v3 v4 v5 v6 (L ++ [⟨n, D⟩]) (T ++ [⟨.slice a18 D0 c18, D⟩]) (k + 1)) := Lib.hid ⟨by
                rw [List.map_append, List.map_append, List.map_append]
                have q := RA.out.perm (perm4 _ _ _ _ _ _)
                rw [HXN.out] at q
                exact q, by rw [List.map_append, List.map_append, HR.out.tl]; rfl, by rw [List.length_append, HR.out.len]; rfl, fun a ha => by
              rcases List.mem_append.1 ha with h | h
              · exact HR.out.ok a h
              · rw [List.mem_singleton] at h
                subst h
                exact ⟨nb.1, nb.2, D2, d, d1, d2, by rw [← HXN.out]; exact Dm⟩⟩
            clear RA R9 R8 R7 R6 R5 R4 R3 R2 RD
            go_roundw
            case rel => exact ⟨_, _, k + 1, by go_num, by omega, by omega, NX.out⟩
            case measure => simp only [intOf]; omega
      · have hz : (¬ (k : Int) < (nA : Int)) ∨ ((k : Int) < (nA : Int) ∧ ¬ (k : Int) < 8) := by omega
        clear hall
        rcases hz with z | ⟨z1, z⟩
        all_goals
          go_wp2_with fail
          go_meet
          exact fin.out
  case rest =>
    obtain ⟨L, T, k, k8, R⟩ := hcut
    have l8 : L.length ≤ 8 := by rw [R.len]; exact k8
    have oB : wc.ownsRow w.heap.size 44 5 u11 L.length (flatB L) := R.r.own (rB u11 L) (by simp)
    have oC : wc.ownsRow w.heap.size 36 1 u12 T.length (T.map (·.v)) := R.r.own (rC u12 T) (by simp)
    obtain ⟨aR, cR, rfl, sb⟩ := bt_own oB (fun a ha => ⟨(R.ok a ha).1, (R.ok a ha).2.1⟩)
    obtain ⟨aQ, cQ, rfl, sc⟩ := sc_own oC (fun t ht => R.r.own (rT t) (by simp only [List.mem_append, List.mem_map]; exact .inr ⟨t, ht, rfl⟩))
    have tl := congrArg List.length R.tl
    rw [List.length_map, List.length_map] at tl
    rw [R.tl] at sc
    have dR : wc.ownsRow w.heap.size 2 1 u13 (L.map fun a : Ask1 => X % a.n).length (rints (L.map fun a : Ask1 => X % a.n)) := R.r.own (rI u13 (L.map fun a : Ask1 => X % a.n)) (by simp)
    have dM : wc.ownsRow w.heap.size 2 1 u14 (L.map fun a : Ask1 => a.n).length (rints (L.map fun a : Ask1 => a.n)) := R.r.own (rI u14 (L.map fun a : Ask1 => a.n)) (by simp)
    rw [List.length_map] at dR dM
    obtain ⟨a3, c3, rfl, sr⟩ := sn_own dR
    obtain ⟨a4, c4, rfl, sm⟩ := sn_own dM
    have OKA := Lib.hid R.ok
    have SB := Lib.hid sb
    have SCC := Lib.hid sc
    have SR := Lib.hid (sl_of_sn sr (fun y hy => by
      obtain ⟨a, ha, rfl⟩ := List.mem_map.1 hy
      have h1 := (R.ok a ha).1
      have h2 := (R.ok a ha).2.1
      have := Int.emod_nonneg X (b := a.n) (by omega)
      have := Int.emod_lt_of_pos X (b := a.n) (by omega)
      omega))
    have SM := Lib.hid (sl_of_sn sm (fun y hy => by
      obtain ⟨a, ha, rfl⟩ := List.mem_map.1 hy
      have h1 := (R.ok a ha).1
      have h2 := (R.ok a ha).2.1
      omega))
    have B1 := Lib.hid R.r.b
    have ASK := Lib.hid (asked l8 (by omega) (by omega) (by omega) R.ok)
    have JOI := Lib.hid (joined l8 R.ok)
    have NEA := Lib.hid (neared l8 (by omega) (by omega) R.ok)
    rw [tl] at SCC ⊢
    obtain ⟨n8, hn8⟩ : ∃ n8, n8 = L.length := ⟨_, rfl⟩
    rw [← hn8] at SB SCC SR SM l8 ⊢
    clear R sb sc oB oC dR dM sr sm HA HB HC tl hn8 hi1 hz1 hs1 hy1 hk1 hi2 hz2 hs2 hy2 hk2 hi3 hz3 hs3 hy3 hk3
    go_wp2_with fail
    refine (resolve_walk aR n8 cR (L.map fun a => grd a.n) aQ n8 cQ (L.map (·.C)) o 65536 _ SB.out SCC.out).mono ?_
    rintro e w2 ⟨v, rfl, ow, b2⟩
    rw [ASK.out.1] at ow ⊢
    simp only at ow ⊢
    obtain ⟨av, cv, rfl, sv⟩ := sn_own ow
    have MX := Lib.hid ASK.out.2
    have SRT := Lib.hid (resL_sorted (hitR (L.map fun a => grd a.n) (L.map (·.C)) o) 65536)
    have RB := Lib.hid (fun x => resL_bd (h := hitR (L.map fun a => grd a.n) (L.map (·.C)) o) (k := 65536) (x := x))
    generalize resL (hitR (L.map fun a => grd a.n) (L.map (·.C)) o) 65536 = l at sv MX SRT RB ⊢
    have SV := Lib.hid sv
    have s1 := sv.le
    have s2 := sv.small
    have LV := Lib.hid sv.len
    obtain ⟨M, hM⟩ : ∃ M, l.length = M := ⟨_, rfl⟩
    rw [hM] at SV s1 LV ⊢
    have LM := Lib.hid hM
    clear hM LV
    have B2 := Lib.hid (B1.out.trans (b2.mono B1.out.size))
    have SR2 := Lib.hid (SR.out.keep b2)
    have SM2 := Lib.hid (SM.out.keep b2)
    clear ow b2 sv SB SCC SR SM B1 ASK
    go_wp2_with fail
    go_loopw [21, 118] (fun tv i wr => ∃ q : Nat, i = .int .i64 q ∧ q ≤ M ∧ tv = .bool (decide (X ∈ l.take q)) ∧ w2 = wr) (fun _ i _ => M - (intOf i).toNat)
    case atStart => exact ⟨0, rfl, by omega, by simp, rfl⟩
    case round =>
      obtain ⟨q, rfl, hq, rfl, e9⟩ := hrel
      subst e9
      by_cases hqM : q < M
      · obtain ⟨b, of, y, rfl, hb, hx, c0⟩ := SV.out.at hqM
        have NX : Hid (decide (X ∈ l.take (q + 1)) = (decide (X ∈ l.take q) || decide (y = X))) := Lib.hid (by
          rw [List.take_add_one, hx]
          simp [Bool.decide_or, eq_comm])
        have PRE : Hid (∀ (p : Nat), q = p + 1 → ∃ z, w2.cell? ⟨b, of + p, none⟩ = some (.int .i64 z) ∧ z < y) := Lib.hid (fun p hp => by
          obtain ⟨b', of', z, e1, _, hz, c1⟩ := SV.out.at (show p < M by omega)
          cases e1
          exact ⟨z, c1, SRT.out p z y hz (by rw [← hp]; exact hx)⟩)
        have qM : (q : Int) < (M : Int) := by omega
        generalize decide (X ∈ l.take q) = tv at NX ⊢
        clear hx
        by_cases q0 : q = 0
        · have q0i : ¬ (0 : Int) < (q : Int) := by omega
          clear q0
          cases tv
          · by_cases yX : y = X
            · have NY : Hid (decide (X ∈ l.take (q + 1)) = true) := Lib.hid (by rw [NX.out, decide_eq_true yX]; rfl)
              have ye : (y == X) = true := by rw [yX]; simp
              clear yX NX PRE
              go_wp2_with fail
              go_roundw
              case rel => exact ⟨q + 1, by go_num, by omega, by rw [NY.out], trivial⟩
              case measure => simp only [intOf]; omega
            · have NY : Hid (decide (X ∈ l.take (q + 1)) = false) := Lib.hid (by rw [NX.out, decide_eq_false yX]; rfl)
              have ye : (y == X) = false := by rw [beq_eq_false_iff_ne]; exact yX
              clear NX PRE
              go_wp2_with fail
              go_roundw
              case rel => exact ⟨q + 1, by go_num, by omega, by rw [NY.out], trivial⟩
              case measure => simp only [intOf]; omega
          · have NY : Hid (decide (X ∈ l.take (q + 1)) = true) := Lib.hid (by rw [NX.out]; rfl)
            clear NX PRE
            go_wp2_with fail
            go_roundw
            case rel => exact ⟨q + 1, by go_num, by omega, by rw [NY.out], trivial⟩
            case measure => simp only [intOf]; omega
        · obtain ⟨p, rfl⟩ : ∃ p, q = p + 1 := ⟨q - 1, by omega⟩
          obtain ⟨z, c1, zy⟩ := PRE.out p rfl
          have zi : ¬ y ≤ z := by omega
          have q0i : (0 : Int) < ((p + 1 : Nat) : Int) := by omega
          have pM : (p : Int) < (M : Int) := by omega
          have pM2 : p < M := by omega
          cases tv
          · by_cases yX : y = X
            · have NY : Hid (decide (X ∈ l.take (p + 1 + 1)) = true) := Lib.hid (by rw [NX.out, decide_eq_true yX]; rfl)
              have ye : (y == X) = true := by rw [yX]; simp
              clear yX NX PRE
              go_wp2_with fail
              go_roundw
              case rel => exact ⟨p + 1 + 1, by go_num, by omega, by rw [NY.out], trivial⟩
              case measure => simp only [intOf]; omega
            · have NY : Hid (decide (X ∈ l.take (p + 1 + 1)) = false) := Lib.hid (by rw [NX.out, decide_eq_false yX]; rfl)
              have ye : (y == X) = false := by rw [beq_eq_false_iff_ne]; exact yX
              clear NX PRE
              go_wp2_with fail
              go_roundw
              case rel => exact ⟨p + 1 + 1, by go_num, by omega, by rw [NY.out], trivial⟩
              case measure => simp only [intOf]; omega
          · have NY : Hid (decide (X ∈ l.take (p + 1 + 1)) = true) := Lib.hid (by rw [NX.out]; rfl)
            clear NX PRE
            go_wp2_with fail
            go_roundw
            case rel => exact ⟨p + 1 + 1, by go_num, by omega, by rw [NY.out], trivial⟩
            case measure => simp only [intOf]; omega
      · obtain rfl : q = M := by omega
        have tt : decide (X ∈ l.take q) = true := by rw [List.take_of_length_le (by rw [LM.out]; exact Nat.le_refl _)]; exact decide_eq_true MX.out
        rw [tt]
        clear tt MX SRT RB LM SV
        go_wp2_with fail
        refine (join_walk 4294967296 divOk_small (by omega) _ _ n8 n8 c3 c4 _ _ _ SR2.out SM2.out (fun m hm => .inl (by obtain ⟨a, ha, rfl⟩ := List.mem_map.1 hm; have := (OKA.out a ha).2.1; omega))).mono ?_
        rintro e w4 ⟨rfl, b4⟩
        have B4 := Lib.hid (B2.out.trans (b4.mono B2.out.size))
        have SR4 := Lib.hid (SR2.out.keep b4)
        have SM4 := Lib.hid (SM2.out.keep b4)
        have JJ := JOI.out
        generalize joinW (L.map fun a : Ask1 => X % a.n) (L.map fun a : Ask1 => a.n) = J at JJ ⊢
        obtain ⟨y, all, er⟩ := J
        simp only at JJ ⊢
        clear b4 B2 SR2 SM2 JOI
        rcases JJ with h3 | ⟨h0, hall, hy, hz⟩
        · subst h3
          go_wp2_with fail
          go_ret
          exact ⟨rfl, B4.out⟩
        · subst h0
          have HY := Lib.hid hy
          have HZ := Lib.hid hz
          clear hy hz
          go_wp2_with fail
          refine (near_walk _ _ n8 n8 c3 c4 _ _ 0 65536 _ SR4.out SM4.out (by omega) (by omega) (by omega) (by omega)).mono ?_
          rintro e w5 ⟨v5, rfl, ow5, b5⟩
          have B5 := Lib.hid (B4.out.trans (b5.mono B4.out.size))
          rw [NEA.out.1] at ow5 ⊢
          simp only at ow5 ⊢
          have ad := Lib.hid (fun a1 a2 => NEA.out.2 all a1 a2 HZ.out)
          have xm : X.tmod all = y := by rw [HY.out]; exact Int.tmod_eq_emod_of_nonneg (by omega)
          clear NEA HZ HY b5
          by_cases c1 : all ≤ X
          · obtain ⟨a5, c5, rfl, s5⟩ := sn_own (L := nearL (prs L X) 0 65536) ow5
            clear ad ow5 s5
            go_wp2_with fail
            go_ret
            exact ⟨rfl, B5.out⟩
          · by_cases c2 : all < 65536
            · obtain ⟨a5, c5, rfl, s5⟩ := sn_own (L := nearL (prs L X) 0 65536) ow5
              clear ad ow5 s5
              go_wp2_with fail
              go_ret
              exact ⟨rfl, B5.out⟩
            · rw [ad.out (by omega) (by omega)] at ow5
              obtain ⟨a5, c5, rfl, s5⟩ := sn_own (L := [X]) ow5
              obtain ⟨b6, o6, x6, rfl, hb6, hx6, c6⟩ := s5.at (k := 0) (by simp)
              simp only [List.getElem?_cons_zero, Option.some.injEq] at hx6
              subst hx6
              rw [Nat.add_zero] at c6
              clear ad ow5 s5
              go_wp2_with fail
              go_ret
              exact ⟨rfl, B5.out⟩
end Go.Proofs.Yteejnfjlfoeblaa
