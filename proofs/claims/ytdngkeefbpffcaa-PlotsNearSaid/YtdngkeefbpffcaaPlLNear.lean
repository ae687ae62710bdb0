/-
  What is proved: the law PlotsNear returns true, whatever its arguments. Conditions: those of the statement alone.
-/
import Derived.Test.YtdngkeefbpffcaaPuN
import Derived.Test.YtdngkeefbpffcaaRows
import Derived.Deep.DeepCutAuto
import Derived.Deep.CutBlock
set_option autoImplicit false
set_option linter.unusedVariables false
namespace Go.Proofs.Ytdngkeefbpffcaa
open Go.RowKit Go.ChangeShapes Go.WideShapes Go.ChangeAt Lk Rs Pl Fo
theorem askN_snoc (L : List One1) (a : One1) : askN (L ++ [a]) = askN L ++ [⟨a.n, [a.c]⟩] := by unfold askN; simp
theorem rints_fints (l : List Int) : fints l = rints l := rfl
theorem sl_of_sn {w : World} {a : Option Addr} {n cap : Nat} {L : List Int} (h : SN w a n cap L) (hr : ∀ x ∈ L, -9223372036854775808 ≤ x ∧ x ≤ 9223372036854775807) : Sl w a n cap L :=
  ⟨h.len, h.le, Nat.le_trans h.le h.small, hr, h.cells.imp id fun ⟨b, off, ha, hb, hc⟩ => ⟨b, off, ha, hb, fun j hj => hc j _ (List.getElem?_eq_getElem hj)⟩⟩
theorem perm4 (x a b c d : Rw) (F : List Rw) : ([x, a, b, c] ++ d :: F).Perm ([a, b, c, d] ++ (F ++ [x])) := by
  simp only [List.cons_append, List.nil_append]
  refine (List.perm_append_singleton x (a :: b :: c :: d :: F)).symm.trans ?_
  simp
structure V4 (w wr : World) (vB vC vM vR : Value) (L : List One1) (T : List Ce) (k : Nat) : Prop where
  r : Rowss w wr ([rB vB (askN L), rC vC T, rI vM (L.map (·.n)), rI vR (L.map (·.c))] ++ T.map rT)
  tl : T.map (·.C) = (askN L).map (·.C)
  len : L.length = k
  ok : okN L
  ok2 : ∀ a ∈ L, -9223372036854775808 ≤ a.c ∧ a.c ≤ 9223372036854775807
set_option maxRecDepth 100000 in
set_option maxHeartbeats 4000000 in
theorem near_law (aA : Option Addr) (nA kA : Nat) (A : List Int) (aB : Option Addr) (nB kB : Nat) (B : List Int) (off : Int) (w : World)
    (hA : SN w aA nA kA A) (hB : SN w aB nB kB B) (hb2 : ∀ x ∈ B, -9223372036854775808 ≤ x ∧ x ≤ 9223372036854775807) (of1 : -9223372036854775808 ≤ off) (of2 : off ≤ 9223372036854775807) :
    Calls Try.prog 9 #[.slice aA nA kA, .slice aB nB kB, .int .i64 off] w (fun e w' => e = .returned (.bool true) ∧ Below w.heap.size w w') := by
  have HA := Lib.hid hA
  have HB := Lib.hid hB
  have BB := Lib.hid hb2
  have a64 := hA.le
  have b64 := hB.le
  have a65 := hA.small
  have b65 := hB.small
  clear hA hB hb2
  obtain ⟨I1, Z1, hi1, hz1, hs1, hy1, hk1⟩ := rs_info rs_int_info
  obtain ⟨I2, Z2, hi2, hz2, hs2, hy2, hk2⟩ := rs_info rs_bt_info
  obtain ⟨I3, Z3, hi3, hz3, hs3, hy3, hk3⟩ := rs_info rs_si_info
  go_enter Try.func9, Try.ntmps9
  go_upto_block 0 with fail
  go_cut [7, 8, 9, 10] (fun vB vC vM vR wx => ∃ (L : List One1) (T : List Ce) (k : Nat), k ≤ 6 ∧ V4 w wx vB vC vM vR L T k)
  case first =>
    go_wp2_with fail
    go_loopw [7, 8, 9, 10, 11] (fun vB vC vM vR i wr => ∃ (L : List One1) (T : List Ce) (k : Nat), i = .int .i64 k ∧ k ≤ 6 ∧ k ≤ nA ∧ V4 w wr vB vC vM vR L T k) (fun _ _ _ _ i _ => 7 - (intOf i).toNat)
    case atStart => exact ⟨[], [], 0, rfl, by omega, by omega, ⟨((((Rowss.nil (Below.refl _ w)).none1 _ _).none1 _ _).none1 _ _).none1 _ _, rfl, rfl, (fun a ha => by cases ha), fun a ha => by cases ha⟩⟩
    case round =>
      obtain ⟨L, T, k, rfl, k6, kA1, R⟩ := hrel
      have HR := Lib.hid R
      clear R
      have fin : Hid (∃ (L : List One1) (T : List Ce) (k : Nat), k ≤ 6 ∧ V4 w wr u7 u8 u9 u10 L T k) := Lib.hid ⟨L, T, k, k6, HR.out⟩
      by_cases hall : k < nA ∧ k < nB ∧ k < 6
      · obtain ⟨g1, g2, g3⟩ := hall
        clear fin
        obtain ⟨b1, o1, ev, rfl, l1, hx1, c1⟩ := HA.out.at g1
        obtain ⟨b2, o2, c, rfl, l2, hx2, c2⟩ := HB.out.at g2
        have CB := BB.out c (List.mem_of_getElem? hx2)
        have cc := (HR.out.r.b.cell (p := ⟨b1, o1 + k, none⟩) l1).trans c1
        have ll := Nat.lt_of_lt_of_le l1 HR.out.r.b.size
        have g2i : (k : Int) < (nB : Int) := by omega
        have g3i : (k : Int) < 6 := by omega
        have nb1 := Int.emod_nonneg ev (b := 300) (by omega)
        have nb2 := Int.emod_lt_of_pos ev (b := 300) (by omega)
        obtain ⟨n0, hn⟩ : ∃ n0, n0 = ev % 300 := ⟨_, rfl⟩
        rw [← hn] at nb1 nb2
        have HN := Lib.hid hn
        obtain ⟨w7, e7⟩ : ∃ w7, w7 = wr := ⟨_, rfl⟩
        subst e7
        clear hx1 hx2 c1 l1 hn
        go_wp2_with fail
        refine (mod_walk ev 300 (by omega) (by omega) _).mono ?_
        rintro e w2 ⟨rfl, rfl⟩
        rw [← HN.out]
        go_wp2_with fail
        obtain ⟨n, hn⟩ : ∃ n, n = n0 + 1 := ⟨_, rfl⟩
        rw [← hn]
        refine (beat_walk n _).mono ?_
        rintro e w2 ⟨rfl, bb2⟩
        have nn : 1 ≤ n ∧ n ≤ 300 := by omega
        have L5 : (askN L).length ≤ 6 := by unfold askN; rw [List.length_map, HR.out.len]; omega
        have T5 : T.length ≤ 6 := by have := congrArg List.length HR.out.tl; unfold askN at this; rw [List.length_map, List.length_map, List.length_map, HR.out.len] at this; omega
        have M5 : (L.map (·.n)).length ≤ 6 := by rw [List.length_map, HR.out.len]; omega
        have M6 : (L.map (·.c)).length ≤ 6 := by rw [List.length_map, HR.out.len]; omega
        have zz := (HR.out.r.below bb2).b.size
        have R2 := Lib.hid ((HR.out.r.below bb2).below (al_below w2 (.cells #[.float .f64 4621819117588971520, .float .f64 4602678819172646912, .float .f64 4652007308841189376, .int .i64 n, .int .i64 4] 24)))
        clear nb1 nb2 hn HN cc ll bb2
        go_wp2_with (first
          | ((with_reducible refine wpList_append_own_at _ ?g2 (.tmp 40) (.tmp 43) 35 ?g3 w.heap.size 24 I2 Z2 5 40 Try.undBt hi2 hz2 hs2 hy2 hk2 ?g4 u7 (askN L).length (flatB (askN L)) ?g5 ?g6 ⟨w2.heap.size, 0, none⟩ 1 1 (btL (grd n)) ?g7 ?g8 ?g9 ?g10 ?g11 ?g12 ?g13 ?_); (case g2 => rfl); (case g3 => rfl); (case g4 => decide); (case g5 => rfl); (case g6 => exact (R2.out.own (rB u7 (askN L)) (by simp))); (case g7 => rfl); (case g8 => rfl); (case g9 => exact (bt_cells (Deep.blk_alloc_new w2 _))); (case g10 => exact (bt_one n)); (case g11 => (simp only [maxLen]; omega)); (case g12 => omega); (case g13 => (simp; omega)); intro v3 w3 ow gr _ hat; have R3 : Hid (Rowss w w3 ([] ++ rB v3 (askN (L ++ [⟨n, c⟩])) :: ([rC u8 T, rI u9 (L.map (·.n)), rI u10 (L.map (·.c))] ++ T.map rT))) := Lib.hid (by rw [askN_snoc, rB_snoc]; exact Rowss.grow (A := []) (r := rB u7 (askN L)) R2.out gr ow hat); have z3 := R3.out.b.size; have R4 : Hid (Rowss w (w3.alloc (.cells #[.int .i64 c] 2)) (rT ⟨.slice (some ⟨w3.heap.size, 0, none⟩) 1 1, [c]⟩ :: ([] ++ rB v3 (askN (L ++ [⟨n, c⟩])) :: ([rC u8 T, rI u9 (L.map (·.n)), rI u10 (L.map (·.c))] ++ T.map rT)))) := Lib.hid (R3.out.new1 (r := rT ⟨.slice (some ⟨w3.heap.size, 0, none⟩) 1 1, [c]⟩) (own_one (Deep.blk_alloc_new w3 _) z3 rfl) rfl); have R5 := Lib.hid (R4.out.below (al_below (w3.alloc (.cells #[.int .i64 c] 2)) (.cells #[.slice (some ⟨w3.heap.size, 0, none⟩) 1 1] 39))); have ccr := (R3.out.b.cell (p := ⟨b2, o2 + k, none⟩) l2).trans c2; have llr := Nat.lt_of_lt_of_le l2 R3.out.b.size; clear ow gr hat)
          | ((with_reducible refine wpList_append_own_at _ ?g2 (.tmp 45) (.tmp 51) 36 ?g3 w.heap.size 39 I3 Z3 1 24 Try.undCC hi3 hz3 hs3 hy3 hk3 ?g4 u8 T.length (T.map (·.v)) ?g5 ?g6 ⟨w3.heap.size + 1, 0, none⟩ 1 1 [.slice (some ⟨w3.heap.size, 0, none⟩) 1 1] ?g7 ?g8 ?g9 ?g10 ?g11 ?g12 ?g13 ?_); (case g2 => rfl); (case g3 => rfl); (case g4 => decide); (case g5 => rfl); (case g6 => exact (R5.out.own (rC u8 T) (by simp))); (case g7 => rfl); (case g8 => rfl); (case g9 => exact (v_cells (g := w3.heap.size + 1) (by have := Deep.blk_alloc_new (w3.alloc (.cells #[.int .i64 c] 2)) (.cells #[.slice (some ⟨w3.heap.size, 0, none⟩) 1 1] 39); simpa using this))); (case g10 => exact v_one); (case g11 => (simp only [maxLen]; omega)); (case g12 => omega); (case g13 => (simp; omega)); intro v4 w4 ow gr _ hat; have R6 : Hid (Rowss w w4 ([rT ⟨.slice (some ⟨w3.heap.size, 0, none⟩) 1 1, [c]⟩, rB v3 (askN (L ++ [⟨n, c⟩]))] ++ rC v4 (T ++ [⟨.slice (some ⟨w3.heap.size, 0, none⟩) 1 1, [c]⟩]) :: ([rI u9 (L.map (·.n)), rI u10 (L.map (·.c))] ++ T.map rT))) := Lib.hid (by rw [rC_snoc]; exact Rowss.grow (A := [rT ⟨.slice (some ⟨w3.heap.size, 0, none⟩) 1 1, [c]⟩, rB v3 (askN (L ++ [⟨n, c⟩]))]) (r := rC u8 T) R5.out gr ow hat); have z4 := R6.out.b.size; have R7 := Lib.hid (R6.out.below (al_below w4 (.cells #[.int .i64 n] 2))); clear ow gr hat)
          | ((with_reducible refine wpList_append_own_at _ ?g2 (.tmp 53) (.tmp 55) 39 ?g3 w.heap.size 2 I1 Z1 1 8 Try.undIn hi1 hz1 hs1 hy1 hk1 ?g4 u9 (L.map (·.n)).length (rints (L.map (·.n))) ?g5 ?g6 ⟨w4.heap.size, 0, none⟩ 1 1 [.int .i64 n] ?g7 ?g8 ?g9 ?g10 ?g11 ?g12 ?g13 ?_); (case g2 => rfl); (case g3 => rfl); (case g4 => decide); (case g5 => rfl); (case g6 => exact (R7.out.own (rI u9 (L.map (·.n))) (by simp))); (case g7 => rfl); (case g8 => rfl); (case g9 => exact (i_cells (Deep.blk_alloc_new w4 _))); (case g10 => exact (i_one _)); (case g11 => (simp only [maxLen]; omega)); (case g12 => omega); (case g13 => (simp; omega)); intro v5 w5 ow gr _ hat; have R8 : Hid (Rowss w w5 ([rT ⟨.slice (some ⟨w3.heap.size, 0, none⟩) 1 1, [c]⟩, rB v3 (askN (L ++ [⟨n, c⟩])), rC v4 (T ++ [⟨.slice (some ⟨w3.heap.size, 0, none⟩) 1 1, [c]⟩])] ++ rI v5 (L.map (·.n) ++ [n]) :: ([rI u10 (L.map (·.c))] ++ T.map rT))) := Lib.hid (by rw [rI_snoc]; exact Rowss.grow (A := [rT ⟨.slice (some ⟨w3.heap.size, 0, none⟩) 1 1, [c]⟩, rB v3 (askN (L ++ [⟨n, c⟩])), rC v4 (T ++ [⟨.slice (some ⟨w3.heap.size, 0, none⟩) 1 1, [c]⟩])]) (r := rI u9 (L.map (·.n))) R7.out gr ow hat); have z5 := R8.out.b.size; have R9 := Lib.hid (R8.out.below (al_below w5 (.cells #[.int .i64 c] 2))); have ccr := (R8.out.b.cell (p := ⟨b2, o2 + k, none⟩) l2).trans c2; have llr := Nat.lt_of_lt_of_le l2 R8.out.b.size; clear ow gr hat)
          | ((with_reducible refine wpList_append_own_at _ ?g2 (.tmp 57) (.tmp 62) 39 ?g3 w.heap.size 2 I1 Z1 1 8 Try.undIn hi1 hz1 hs1 hy1 hk1 ?g4 u10 (L.map (·.c)).length (rints (L.map (·.c))) ?g5 ?g6 ⟨w5.heap.size, 0, none⟩ 1 1 [.int .i64 c] ?g7 ?g8 ?g9 ?g10 ?g11 ?g12 ?g13 ?_); (case g2 => rfl); (case g3 => rfl); (case g4 => decide); (case g5 => rfl); (case g6 => exact (R9.out.own (rI u10 (L.map (·.c))) (by simp))); (case g7 => rfl); (case g8 => rfl); (case g9 => exact (i_cells (Deep.blk_alloc_new w5 _))); (case g10 => exact (i_one _)); (case g11 => (simp only [maxLen]; omega)); (case g12 => omega); (case g13 => (simp; omega)); intro v6 w6 ow gr _ hat; have RA : Hid (Rowss w w6 ([rT ⟨.slice (some ⟨w3.heap.size, 0, none⟩) 1 1, [c]⟩, rB v3 (askN (L ++ [⟨n, c⟩])), rC v4 (T ++ [⟨.slice (some ⟨w3.heap.size, 0, none⟩) 1 1, [c]⟩]), rI v5 (L.map (·.n) ++ [n])] ++ rI v6 (L.map (·.c) ++ [c]) :: (T.map rT))) := Lib.hid (by rw [rI_snoc v6]; exact Rowss.grow (A := [rT ⟨.slice (some ⟨w3.heap.size, 0, none⟩) 1 1, [c]⟩, rB v3 (askN (L ++ [⟨n, c⟩])), rC v4 (T ++ [⟨.slice (some ⟨w3.heap.size, 0, none⟩) 1 1, [c]⟩]), rI v5 (L.map (·.n) ++ [n])]) (r := rI u10 (L.map (·.c))) R9.out gr ow hat); clear ow gr hat))
        have NX : Hid (V4 w w6 v3 v4 v5 v6 (L ++ [⟨n, c⟩]) (T ++ [⟨.slice (some ⟨w3.heap.size, 0, none⟩) 1 1, [c]⟩]) (k + 1)) := Lib.hid ⟨by
            rw [List.map_append, List.map_append, List.map_append]
            exact RA.out.perm (perm4 _ _ _ _ _ _), by rw [List.map_append, askN_snoc, List.map_append, HR.out.tl]; rfl, by rw [List.length_append, HR.out.len]; rfl, (fun a ha => by
          rcases List.mem_append.1 ha with h | h
          · exact HR.out.ok a h
          · rw [List.mem_singleton] at h
            subst h
            exact nn), fun a ha => by
          rcases List.mem_append.1 ha with h | h
          · exact HR.out.ok2 a h
          · rw [List.mem_singleton] at h
            subst h
            exact CB⟩
        clear RA R9 R8 R7 R6 R5 R4 R3 R2
        go_roundw
        case rel => exact ⟨_, _, k + 1, by go_num, by omega, by omega, NX.out⟩
        case measure => simp only [intOf]; omega
      · have hz : (¬ (k : Int) < (nA : Int)) ∨ ((k : Int) < (nA : Int) ∧ ¬ (k : Int) < (nB : Int)) ∨ ((k : Int) < (nA : Int) ∧ (k : Int) < (nB : Int) ∧ ¬ (k : Int) < 6) := by omega
        clear hall
        rcases hz with z | ⟨z1, z⟩ | ⟨z1, z2, z⟩
        all_goals
          go_wp2_with fail
          go_meet
          exact fin.out
  case rest =>
    obtain ⟨L, T, k, k6, R⟩ := hcut
    have l6 : L.length ≤ 6 := by rw [R.len]; exact k6
    have oB : wc.ownsRow w.heap.size 24 5 u7 (askN L).length (flatB (askN L)) := R.r.own (rB u7 (askN L)) (by simp)
    have oC : wc.ownsRow w.heap.size 39 1 u8 T.length (T.map (·.v)) := R.r.own (rC u8 T) (by simp)
    obtain ⟨aR, cR, rfl, sb⟩ := bt_own oB (fun a ha => by
      obtain ⟨b, hb, rfl⟩ := List.mem_map.1 ha
      have := R.ok b hb
      exact ⟨this.1, by have := this.2; simp only; omega⟩)
    obtain ⟨aQ, cQ, rfl, sc⟩ := sc_own oC (fun t ht => R.r.own (rT t) (by simp only [List.mem_append, List.mem_map]; exact .inr ⟨t, ht, rfl⟩))
    have tl := congrArg List.length R.tl
    rw [List.length_map, List.length_map] at tl
    rw [R.tl] at sc
    have dM : wc.ownsRow w.heap.size 2 1 u9 (L.map fun a : One1 => a.n).length (rints (L.map fun a : One1 => a.n)) := R.r.own (rI u9 (L.map fun a : One1 => a.n)) (by simp)
    have dR : wc.ownsRow w.heap.size 2 1 u10 (L.map fun a : One1 => a.c).length (rints (L.map fun a : One1 => a.c)) := R.r.own (rI u10 (L.map fun a : One1 => a.c)) (by simp)
    rw [List.length_map] at dR dM
    obtain ⟨a3, c3, rfl, sm⟩ := sn_own dM
    obtain ⟨a4, c4, rfl, sr⟩ := sn_own dR
    have SB := Lib.hid sb
    have SCC := Lib.hid sc
    have SR := Lib.hid (sl_of_sn sr (fun y hy => by
      obtain ⟨a, ha, rfl⟩ := List.mem_map.1 hy
      exact R.ok2 a ha))
    have SM := Lib.hid (sl_of_sn sm (fun y hy => by
      obtain ⟨a, ha, rfl⟩ := List.mem_map.1 hy
      have := R.ok a ha
      have h1 := this.1
      have h2 := this.2
      omega))
    have B1 := Lib.hid R.r.b
    have EQ := Lib.hid (one_near off l6 R.ok)
    have al : (askN L).length = L.length := by unfold askN; rw [List.length_map]
    rw [tl] at SCC ⊢
    rw [al] at SB SCC ⊢
    obtain ⟨n8, hn8⟩ : ∃ n8, n8 = L.length := ⟨_, rfl⟩
    rw [← hn8] at SB SCC SR SM ⊢
    clear R sb sc oB oC dR dM sr sm HA HB BB tl al hn8 hi1 hz1 hs1 hy1 hk1 hi2 hz2 hs2 hy2 hk2 hi3 hz3 hs3 hy3 hk3
    go_wp2_with fail
    refine (resolve_walk aR n8 cR ((askN L).map fun a => grd a.n) aQ n8 cQ ((askN L).map (·.C)) off 3000 _ SB.out SCC.out).mono ?_
    rintro e w2 ⟨v, rfl, ow, b2⟩
    rw [EQ.out] at ow ⊢
    obtain ⟨av, cv, rfl, sv⟩ := sn_own ow
    have SV := Lib.hid sv
    have B2 := Lib.hid (B1.out.trans (b2.mono B1.out.size))
    have SR2 := Lib.hid (SR.out.keep b2)
    have SM2 := Lib.hid (SM.out.keep b2)
    clear ow b2 sv SB SCC SR SM B1 EQ
    generalize hW : nearW (L.map (·.c)) (L.map (·.n)) off 3000 = W at SV ⊢
    have HW := Lib.hid hW
    clear hW
    obtain ⟨l, ee⟩ := W
    simp only at SV ⊢
    obtain ⟨M, hM⟩ : ∃ M, l.length = M := ⟨_, rfl⟩
    rw [hM] at SV ⊢
    have LM := Lib.hid hM
    clear hM
    go_wp2_with fail
    refine (fnear_walk a4 a3 n8 n8 c4 c3 _ _ off 3000 w2 SR2.out SM2.out of1 of2 (by omega) (by omega)).mono ?_
    rintro e w3 ⟨v, rfl, ow, b3⟩
    rw [HW.out] at ow ⊢
    simp only at ow ⊢
    obtain ⟨av2, cv2, rfl, sv2⟩ := sn_own (L := l) ow
    have SV2 := sv2
    rw [LM.out] at SV2 ⊢
    have S2 := Lib.hid SV2
    have S1 := Lib.hid (SV.out.keep b3)
    have B3 := Lib.hid (B2.out.trans (b3.mono B2.out.size))
    have s1 := S1.out.le
    have s2 := S1.out.small
    have s3 := S2.out.le
    have s4 := S2.out.small
    clear ow b3 sv2 SV2 SV SR2 SM2 HW B2
    go_wp2_with fail
    go_loopw [17] (fun i wr => ∃ q : Nat, i = .int .i64 q ∧ q ≤ M ∧ Below w3.heap.size w3 wr) (fun i _ => M - (intOf i).toNat)
    case atStart => exact ⟨0, rfl, by omega, Below.refl _ _⟩
    case round =>
      obtain ⟨q, rfl, hq, b9⟩ := hrel
      have B9 := Lib.hid b9
      clear b9
      by_cases hqM : q < M
      · obtain ⟨b, of, y, rfl, hb, hx, c0⟩ := S1.out.at hqM
        obtain ⟨b', of', y', rfl, hb', hx', c1⟩ := S2.out.at hqM
        obtain rfl : y = y' := by rw [hx] at hx'; exact Option.some.inj hx'
        have c0 := (B9.out.cell (p := ⟨b, of + q, none⟩) hb).trans c0
        have hb := Nat.lt_of_lt_of_le hb B9.out.size
        have c1 := (B9.out.cell (p := ⟨b', of' + q, none⟩) hb').trans c1
        have hb' := Nat.lt_of_lt_of_le hb' B9.out.size
        have qM : (q : Int) < (M : Int) := by omega
        obtain ⟨w8, e8⟩ : ∃ y, y = wr := ⟨_, rfl⟩
        rw [← e8] at B9 c0 hb c1 hb' ⊢
        clear e8 hx hx'
        go_upto_region 20 with fail
        go_cut [102] (fun s wx => s = .bool false ∧ Below w8.heap.size w8 wx)
        case first =>
          refine wp_region_J 9 (fun x => Below w8.heap.size w8 x) (by kernel_rfl) rfl (by kernel_rfl) ((Below.refl _ w8).drew) (fun wj hJ hs => ?_)
          have HJ := Lib.hid hJ
          clear hJ
          (refine j_take 0 _ ?_ hs rfl rfl (by kernel_rfl) (by kernel_rfl) HJ.out (fun w' hw' => ?_) ?_; rotate_left; (· skip; go_simp; rfl); (go_simp))
          (refine j_take 1 _ ?_ hs rfl rfl (by kernel_rfl) (by kernel_rfl) HJ.out (fun w' hw' => ?_) ?_; rotate_left; (· skip; go_simp; rfl); (go_simp))
          (refine j_take 2 _ ?_ hs rfl rfl (by kernel_rfl) (by kernel_rfl) HJ.out (fun w' hw' => ?_) ?_; rotate_left; (· skip; go_simp; rfl); (go_simp))
          (refine j_take 3 _ ?_ hs rfl rfl (by kernel_rfl) (by kernel_rfl) HJ.out (fun w' hw' => ?_) ?_; rotate_left; (· have d := (hw'.cell (p := ⟨b, of + q, none⟩) hb).trans c0; go_simp; rfl); (go_simp))
          (refine j_take 4 _ ?_ hs rfl rfl (by kernel_rfl) (by kernel_rfl) HJ.out (fun w' hw' => ?_) ?_; rotate_left; (· skip; go_simp; rfl); (go_simp))
          (refine j_take 5 _ ?_ hs rfl rfl (by kernel_rfl) (by kernel_rfl) HJ.out (fun w' hw' => ?_) ?_; rotate_left; (· skip; go_simp; rfl); (go_simp))
          (refine j_take 6 _ ?_ hs rfl rfl (by kernel_rfl) (by kernel_rfl) HJ.out (fun w' hw' => ?_) ?_; rotate_left; (· skip; go_simp; rfl); (go_simp))
          (refine j_take 7 _ ?_ hs rfl rfl (by kernel_rfl) (by kernel_rfl) HJ.out (fun w' hw' => ?_) ?_; rotate_left; (· have d := (hw'.cell (p := ⟨b', of' + q, none⟩) hb').trans c1; go_simp; rfl); (go_simp))
          (refine j_take 8 _ ?_ hs rfl rfl (by kernel_rfl) (by kernel_rfl) HJ.out (fun w' hw' => ?_) ?_; rotate_left; (· skip; go_simp; rfl); (go_simp))
          refine j_done (by kernel_rfl) ?_
          go_wp2_with fail
          go_meet
          exact ⟨by simp, HJ.out⟩
        case rest =>
          obtain ⟨rfl, bb⟩ := hcut
          have BC := Lib.hid (B9.out.trans (bb.mono B9.out.size))
          clear bb c0 hb c1 hb' B9
          go_wp2_with fail
          go_roundw
          case rel => exact ⟨q + 1, by go_num, by omega, BC.out⟩
          case measure => simp only [intOf]; omega
      · obtain rfl : q = M := by omega
        go_wp2_with fail
        refine (wakes_walk _).mono ?_
        rintro e' w4 ⟨rfl, b4⟩
        have B5 := Lib.hid ((B3.out.trans (B9.out.mono B3.out.size)).trans (b4.mono (Nat.le_trans B3.out.size B9.out.size)))
        clear b4
        go_wp2_with fail
        go_ret
        exact ⟨rfl, B5.out⟩
set_option maxRecDepth 100000 in
theorem near_args (W : World) (base : Nat) (args : Array Value) (hsz : args.size = Try.f9.params.size) (hval : ∀ (j : Nat) t v, Try.f9.params[j]? = some t → args[j]? = some v → Value.okWide Try.prog W .any base t v) (hrd : ∀ (j : Nat) t v, Try.f9.params[j]? = some t → args[j]? = some v → Rd Try.prog W t v.cells.toList) :
    Calls Try.prog 9 args W (fun e w' => e = .returned (.bool true) ∧ Below W.heap.size W w') := by
  rw [Try.params9] at hval hsz hrd
  obtain ⟨l⟩ := args
  match l, hsz with
  | [v0, v1, v2], _ =>
    obtain ⟨a0, n0, c0, M0, rfl, s0, t0⟩ := sn_arg (hval 0 39 v0 rfl rfl) (hrd 0 39 v0 rfl rfl)
    obtain ⟨a1, n1, c1, M1, rfl, s1, t1⟩ := sn_arg (hval 1 39 v1 rfl rfl) (hrd 1 39 v1 rfl rfl)
    obtain ⟨x2, rfl, lo2, hi2⟩ := ok_int (t := 2) Try.underlying2 (hval 2 2 v2 rfl rfl)
    exact near_law a0 n0 c0 M0 a1 n1 c1 M1 x2 W s0 s1 t1 lo2 hi2

set_option maxRecDepth 100000 in
theorem near_lifted (os : Os) (started : os.Started) (H : Type) (enc : TypeId × Value → H) :
    ReturnsInHanded {} Try.checked os 9 .any (Rows.plotsNearSpec.pre6 enc Try.prog Try.f9 Rows.plotsNearRow.domain false) (Rows.plotsNearSpec.post enc Try.prog Try.f9 false true false false) :=
  law_lifted_s (C := Try.checked) Try.own started (by kernel_rfl) Try.func9
    (ChangeSpec.witness6 (enc := enc) (C := Try.checked) false ⟨#[], #[.slice none 0 0, .slice none 0 0, .int .i64 0], []⟩ 8 (by kernel_rfl) (by kernel_rfl) (by kernel_rfl) (by kernel_rfl))
    Try.laidOut (fun t ht => by have ht2 : t ∈ Try.f9.params.toList := ht; rw [Try.params9] at ht2; simp only [List.mem_cons, List.not_mem_nil, or_false] at ht2; rcases ht2 with rfl | rfl | rfl <;> exact ⟨by kernel_rfl, of_decide_eq_true (by kernel_rfl)⟩)
    rfl Try.underlying4 rfl (fun ds hd => by have hd2 : ds.length = Try.f9.params.size := hd; rw [Try.params9] at hd2; match ds, hd2 with | [d0, d1, d2], _ => exact ⟨rfl, rfl, rfl⟩) near_args

theorem near_holds : Rows.PlotsNearSaid :=
  OpenClaim.holds_of_wide 9 Try.f9 rfl rfl rfl rfl rfl rfl rfl ⟨rfl, rfl, rfl, rfl, rfl⟩ rfl rfl rfl rfl rfl (by kernel_rfl) Try.func9 (by kernel_rfl)
    (of_decide_eq_true (by kernel_rfl)) (by unfold Func.isWrapper; first | (rw [if_pos (by decide +kernel)]; kernel_rfl) | (rw [if_neg (by decide +kernel)]; exact ⟨rfl, rfl⟩))
    (fun os started H enc _ => near_lifted os started H enc)
#print axioms near_holds
end Go.Proofs.Ytdngkeefbpffcaa
